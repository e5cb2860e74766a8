/-
  strconv.ParseUint at two octets, base 16. Conditions: Go's own ErrSyntax is laid.
-/
import Derived.Test.YtifibhaalepmgaaDoorShelf2
import Derived.Test.YtifibhaalepmgaaDoorNumW
import Derived.Test.YtifibhaalepmgaaDoorQuoteP
namespace Go.Proofs.YtifibhaalepmgaaDoor
open Go Go.RowKit
set_option linter.unusedVariables false

def hex2 (c : UInt8) : List UInt8 := [hexd (c.toNat / 16), hexd (c.toNat % 16)]
def HexPost (t : List UInt8) (w : World) : Ending → World → Prop := fun e w' => Below w.heap.size w w' ∧ ((∃ n : Int, e = .returned (.tuple #[.int .u64 n, .nilIface]) ∧ 0 ≤ n ∧ n ≤ 255 ∧ ∀ c : UInt8, t = hex2 c → n = c.toNat) ∨ ((∀ c : UInt8, t ≠ hex2 c) ∧ e = .returned (.tuple #[.int .u64 0, .iface 140 (.int .i64 2)])))

theorem hexd_val (n : Nat) (h : n < 16) : (hexd n).toNat = if n < 10 then 48 + n else 87 + n := by
  have : ∀ j : Fin 16, (hexd j.val).toNat = if j.val < 10 then 48 + j.val else 87 + j.val := by decide +kernel
  exact this ⟨n, h⟩
/-- What the first digits make. -/
def hexAcc (c : UInt8) (k : Nat) : Nat := if k = 0 then 0 else if k = 1 then c.toNat / 16 else c.toNat
theorem hex_next (a b c : UInt8) (h : [a, b] = hex2 c) (k : Nat) (hk : k < 2) :
    (48 ≤ ([a, b].getD k 0).toNat ∧ ([a, b].getD k 0).toNat ≤ 57 ∧ hexAcc c (k + 1) = hexAcc c k * 16 + (([a, b].getD k 0).toNat - 48)) ∨
    (97 ≤ ([a, b].getD k 0).toNat ∧ ([a, b].getD k 0).toNat ≤ 102 ∧ hexAcc c (k + 1) = hexAcc c k * 16 + (([a, b].getD k 0).toNat - 87)) := by
  have hc := c.toNat_lt
  rw [h]
  unfold hex2
  rcases (show k = 0 ∨ k = 1 by omega) with rfl | rfl
  · have := hexd_val (c.toNat / 16) (by omega)
    simp only [List.getD_cons_zero, this, hexAcc]
    split <;> simp <;> omega
  · have := hexd_val (c.toNat % 16) (by omega)
    simp only [List.getD_cons_succ, List.getD_cons_zero, this, hexAcc]
    split <;> simp <;> omega
theorem low_hex (x : Int) (h0 : 97 ≤ x) (h1 : x ≤ 102) : bits .or .u8 x 32 = x := by
  rcases (show x = 97 ∨ x = 98 ∨ x = 99 ∨ x = 100 ∨ x = 101 ∨ x = 102 by omega) with rfl | rfl | rfl | rfl | rfl | rfl <;> decide

set_option maxHeartbeats 8000000 in
set_option maxRecDepth 100000 in
theorem parse16_any (a b : UInt8) (w : World) :
    Calls Tryd.prog 69 #[.string ⟨#[a, b]⟩, .int .i64 16, .int .i64 8] w (HexPost [a, b] w) := by
  have hemp : (⟨#[a, b]⟩ : ByteArray).toList.isEmpty = false := by rw [ByteArray.toList_eq]; rfl
  have hcv := Lib.run_convert_string_bytes (P := Tryd.prog) w 9 29 5 ⟨#[a, b]⟩ (u := .string) Tryd.underlying9 Tryd.underlying29 Tryd.underlying5
  have hB : ∀ j, j < 2 → (Lib.bytesWorld w 5 ⟨#[a, b]⟩).cell? ⟨w.heap.size, j, none⟩ = some (.int .u8 (([a, b] : List UInt8).getD j 0).toNat) := fun j hj => Lib.bytesWorld_cell w 5 ⟨#[a, b]⟩ j hj
  have BW := Lib.hid (Lib.bytesWorld_below w 5 ⟨#[a, b]⟩)
  obtain ⟨W1, hW1⟩ : ∃ W1, W1 = Lib.bytesWorld w 5 ⟨#[a, b]⟩ := ⟨_, rfl⟩
  rw [← hW1] at hcv hB BW
  have hsz2 : (⟨#[a, b]⟩ : ByteArray).size = 2 := rfl
  rw [hsz2] at hcv
  have HX := Lib.hid (fun c h k hk => hex_next a b c h k hk)
  have HB := Lib.hid hB
  clear hW1 hB
  generalize hst : (⟨#[a, b]⟩ : ByteArray) = st at *
  generalize hbs : ([a, b] : List UInt8) = bs at *
  clear hst
  go_enter Tryd.func69, Tryd.ntmps69
  go_wp2_with fail
  go_loop [12, 13, 101] (fun vu vn vi => ∃ (k : Nat) (n : Int), vu = .bool false ∧ vn = .int .u64 n ∧ vi = .int .i64 k ∧ k ≤ 2 ∧ 0 ≤ n ∧ (k = 0 → n = 0) ∧ (k = 1 → n ≤ 15) ∧ n ≤ 255 ∧ Hid (∀ c : UInt8, bs = hex2 c → n = (hexAcc c k : Nat))) (fun _ _ vi => 2 - (intOf vi).toNat)
  case atStart => exact ⟨0, 0, rfl, rfl, rfl, by omega, by omega, fun _ => rfl, fun h => by omega, by omega, Lib.hid (fun c _ => rfl)⟩
  case round =>
    obtain ⟨k, n, rfl, rfl, rfl, hk, n0, nz, n1, n2, hacc⟩ := hrel
    by_cases hk2 : k < 2
    · have hc := HB.out k hk2
      have hx := Lib.hid (fun c h => HX.out c h k hk2)
      have hc256 := (bs.getD k 0).toNat_lt
      have nk : n ≤ 15 := by rcases (show k = 0 ∨ k = 1 by omega) with rfl | rfl; (have := nz rfl; omega); exact n1 rfl
      generalize (bs.getD k 0).toNat = x at *
      have x0 : 0 ≤ (x : Int) := by omega
      have x1 : (x : Int) ≤ 255 := by omega
      have hcut : n < 1152921504606846976 := by omega
      clear n1 n2
      by_cases hd : 48 ≤ x ∧ x ≤ 57
      · obtain ⟨d0, d1⟩ := hd
        have e0 : 48 ≤ (x : Int) := by omega
        have e1 : (x : Int) ≤ 57 := by omega
        have HN : Hid (∀ c : UInt8, bs = hex2 c → n * 16 + ((x : Int) - 48) = (hexAcc c (k + 1) : Nat)) := Lib.hid (fun c h => by
          have := hacc.out c h
          rcases hx.out c h with ⟨_, _, y⟩ | ⟨y, _, _⟩
          · rw [y]; omega
          · omega)
        have w1 : n * 16 + ((x : Int) - 48) ≤ 255 := by omega
        have w2 : n * 16 + ((x : Int) - 48) < 18446744073709551616 := by omega
        clear hacc hx
        go_wp2_with fail
        exact ⟨⟨k + 1, _, rfl, rfl, by congr 1, by omega, by omega, fun h => by omega, fun h => by (have := nz (by omega)); omega, w1, HN⟩, by simp [intOf]; omega⟩
      · have hdx : ¬ (48 ≤ (x : Int) ∧ (x : Int) ≤ 57) := by omega
        have hv0 := bits_lo_u8 .or (x : Int) 32
        have hv1 := bits_hi_u8 .or (x : Int) 32
        have hu0 := bits_lo_u8 .or 95 32
        have hu1 := bits_hi_u8 .or 95 32
        have hlow := low_hex (x : Int)
        by_cases hl : 97 ≤ bits .or .u8 (x : Int) 32 ∧ bits .or .u8 (x : Int) 32 ≤ 102
        · obtain ⟨l0, l1⟩ := hl
          have HN : Hid (∀ c : UInt8, bs = hex2 c → n * 16 + (bits .or .u8 (x : Int) 32 - 97 + 10) = (hexAcc c (k + 1) : Nat)) := Lib.hid (fun c h => by
            have := hacc.out c h
            rcases hx.out c h with ⟨y0, y1, _⟩ | ⟨y0, y1, y⟩
            · omega
            · rw [y, hlow (by omega) (by omega)]; omega)
          have w1 : n * 16 + (bits .or .u8 (x : Int) 32 - 97 + 10) ≤ 255 := by omega
          have w2 : n * 16 + (bits .or .u8 (x : Int) 32 - 97 + 10) < 18446744073709551616 := by omega
          have l2 : bits .or .u8 (x : Int) 32 ≤ 122 := by omega
          have h95 : ¬ (x : Int) = 95 := fun e => by rw [e] at l1; exact absurd l1 (by decide)
          have l3 : bits .or .u8 (x : Int) 32 - 97 + 10 < 16 := by omega
          clear hacc hx hlow hd
          go_wp2_with (go_at_call 93; refine (Tryd.internal_strconv_lower _ _).mono ?_; rintro e w' ⟨rfl, rfl⟩)
          all_goals first
            | exact ⟨⟨k + 1, _, rfl, rfl, by congr 1, by omega, by omega, fun h => by omega, fun h => by (have := nz (by omega)); omega, w1, HN⟩, by simp [intOf]; omega⟩
            | (exact absurd l1 (by decide))
        · have BAD : Hid (∀ c : UInt8, bs ≠ hex2 c) := Lib.hid (fun c h => by
            rcases hx.out c h with ⟨y0, y1, _⟩ | ⟨y0, y1, _⟩
            · omega
            · exact hl (by rw [hlow (by omega) (by omega)]; omega))
          clear hacc hx hlow hd
          by_cases hz : 97 ≤ bits .or .u8 (x : Int) 32 ∧ bits .or .u8 (x : Int) 32 ≤ 122
          · obtain ⟨l0, l1⟩ := hz
            have l3 : 16 ≤ bits .or .u8 (x : Int) 32 - 97 + 10 := by omega
            clear hl
            go_wp2_with (go_at_call 93; refine (Tryd.internal_strconv_lower _ _).mono ?_; rintro e w' ⟨rfl, rfl⟩)
            all_goals
              go_ret2
              exact ⟨BW.out, Or.inr ⟨BAD.out, rfl⟩⟩
          · clear hl
            go_wp2_with (go_at_call 93; refine (Tryd.internal_strconv_lower _ _).mono ?_; rintro e w' ⟨rfl, rfl⟩)
            all_goals
              go_ret2
              exact ⟨BW.out, Or.inr ⟨BAD.out, rfl⟩⟩
    · obtain rfl : k = 2 := by omega
      have HN := Lib.hid (fun c h => hacc.out c h)
      clear nz n1 hacc
      go_wp2_with fail
      go_ret2
      exact ⟨BW.out, Or.inl ⟨n, rfl, n0, n2, fun c h => HN.out c h⟩⟩

end Go.Proofs.YtifibhaalepmgaaDoor
