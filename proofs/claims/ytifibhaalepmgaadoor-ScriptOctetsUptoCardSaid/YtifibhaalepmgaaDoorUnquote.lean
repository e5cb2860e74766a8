/-
  quotedEnd and unquote: what they give. No conditions but the length's.
-/
import Derived.Test.YtifibhaalepmgaaDoorUnquoteP
import Derived.Test.YtifibhaalepmgaaDoorQuote
namespace Go.Proofs.YtifibhaalepmgaaDoor
open Go.RowKit

theorem str_size (s : ByteArray) : s.size = s.data.toList.length := rfl
theorem str_at (s : ByteArray) (k : Nat) (h : k < s.size) : ((s[k]'h).toNat : Int) = ((s.data.toList.getD k 0).toNat : Int) := by
  have : s.data.toList.getD k 0 = s.data[k]'h := by rw [List.getD_eq_getElem?_getD, List.getElem?_eq_getElem (show k < s.data.toList.length from h)]; rfl
  rw [this]; rfl

set_option maxHeartbeats 2000000 in
set_option maxRecDepth 100000 in
theorem quotedEnd_any (s : ByteArray) (w : World) (hlen : s.size ≤ 1000000000000) :
    Calls Tryd.prog 29 #[.string s] w (fun e w' => e = .returned (.int .i64 (qEnd s.size s.data.toList 1)) ∧ w' = w) := by
  have N := Lib.hid (str_size s)
  have R := Lib.hid (rfl : qEnd s.size s.data.toList 1 = qEnd s.size s.data.toList 1)
  generalize hr : qEnd s.size s.data.toList 1 = r at R ⊢
  have HR := Lib.hid hr
  clear hr R
  go_enter Tryd.func29, Tryd.ntmps29
  go_wp2
  go_loop [3] (fun i => ∃ k f : Nat, i = .int .i64 k ∧ 1 ≤ k ∧ k ≤ s.size + 2 ∧ s.size < f + k ∧ Hid (qEnd f s.data.toList k = r)) (fun i => s.size + 2 - (intOf i).toNat)
  case atStart => exact ⟨1, s.size, rfl, by omega, by omega, by omega, HR⟩
  case round =>
    obtain ⟨k, f, rfl, hk1, hk, hf, hq⟩ := hrel
    by_cases hlt : k < s.size
    · obtain ⟨f, rfl⟩ : ∃ g, f = g + 1 := ⟨f - 1, by omega⟩
      have hq1 := hq.out
      unfold qEnd at hq1
      rw [if_pos (by have := N.out; omega)] at hq1
      have hx0 := str_at s k hlt
      obtain ⟨x, hx⟩ : ∃ x : Nat, x = (s.data.toList.getD k 0).toNat := ⟨_, rfl⟩
      rw [← hx] at hx0 hq1
      have ix : ∀ h : k < s.size, ((s[k]'h).toNat : Int) = (x : Int) := fun _ => hx0
      have ix2 : ∀ h : ((k : Int)).toNat < s.size, ((s[((k : Int)).toNat]'h).toNat : Int) = (x : Int) := fun _ => hx0
      clear hx hx0 hq
      by_cases h1 : x = 92
      · subst h1
        rw [if_pos rfl] at hq1
        have HQ := Lib.hid hq1
        clear hq1
        go_wp2
        go_round
        case rel => exact ⟨k + 2, f, by go_num, by omega, by omega, by omega, HQ⟩
        case measure => simp [intOf]; omega
      · rw [if_neg h1] at hq1
        by_cases h2 : x = 34
        · subst h2
          rw [if_pos rfl] at hq1
          have HQ := Lib.hid hq1
          clear hq1
          go_wp2
          go_ret
          exact ⟨ret_int (by rw [← HQ.out]; omega), rfl⟩
        · rw [if_neg h2] at hq1
          have HQ := Lib.hid hq1
          have d1 : ((x : Int) == 92) = false := by simp; omega
          have d2 : ((x : Int) == 34) = false := by simp; omega
          clear hq1
          go_wp2
          go_round
          case rel => exact ⟨k + 1, f, by go_num, by omega, by omega, by omega, HQ⟩
          case measure => simp [intOf]; omega
    · have E := Lib.hid ((qEnd_out f s.data.toList k (by have := N.out; omega)).symm.trans hq.out)
      go_wp2
      go_ret
      exact ⟨ret_int (by rw [← E.out]), rfl⟩

end Go.Proofs.YtifibhaalepmgaaDoor
