/-
  Same, Mod: what they give. No conditions.
-/
import Derived.Test.YteeiohhoccgafaaTwins
import Derived.Deep.QuietTactic
import Derived.BigQuiet
namespace Go.Proofs.Yteeiohhoccgafaa
open Go.RowKit

def SamePost (w : World) : Ending → World → Prop := fun e w' => e = .returned (.bool true) ∧ ∃ q, w' = w.drewN q

theorem quiet_at {P : Program} {f : FuncId} {args : Array Value} {w : World} {q n : Nat} {v : Value}
    (h : Calls P f args (w.drewN (q + n)) fun e w' => e = .returned v ∧ ∃ m, w' = (w.drewN (q + n)).drewN m) : Calls P f args (w.drewN (q + n)) fun e w'' => e = .returned v ∧ ∃ m, w'' = w.drewN (q + m) :=
  h.mono fun _ _ ⟨he, m, hm⟩ => ⟨he, n + m, by rw [hm, World.drewN_drewN, Nat.add_assoc]⟩

theorem equal_same {x y : Value} {zs : List Int} {w : World} (h1 : Reads w .u8 x zs) (h2 : Reads w .u8 y zs) :
    Calls Try.prog 48 #[x, y] w (fun e w' => e = .returned (.bool true) ∧ ∃ q, w' = w.drewN q) := by
  refine (equal_byte x y zs zs w h1 h2).mono ?_
  rintro e w' ⟨rfl, q, rfl⟩
  exact ⟨ret_bool (by simp), q, rfl⟩

set_option maxHeartbeats 2000000 in
set_option maxRecDepth 100000 in
theorem same_any (c : Nat) (B : Nat) (R : Rel) (prs : List (Value × Value)) (w : World) (hc : CellsAt w B c prs) (ht : Twins w B R) (hp : ∀ xy ∈ prs, Pr R xy) :
    Calls Try.prog 52 #[.pointer (some ⟨c, 0, none⟩)] w (SamePost w) := by
  have HC := Lib.hid hc
  have HT := Lib.hid ht
  have HP := Lib.hid hp
  obtain ⟨a, ca, a', ca', hcb, hrow⟩ := hc.open
  have c0 : w.cell? ⟨c, 0, none⟩ = some (.slice a prs.length ca) := by rw [cell_of hcb]; rfl
  have c1 : w.cell? ⟨c, 1, none⟩ = some (.slice a' prs.length ca') := by rw [cell_of hcb]; rfl
  have HR := Lib.hid hrow
  have len := hc.len
  clear hc ht hp hcb hrow
  go_enter Try.func52, Try.ntmps52
  go_wp2_with fail
  go_loopw [11] (fun i wr => ∃ k q : Nat, k ≤ prs.length ∧ i = .int .i64 k ∧ wr = w.drewN q) (fun i _ => prs.length - (intOf i).toNat)
  case atStart => exact ⟨0, 0, Nat.zero_le _, rfl, rfl⟩
  case round =>
    obtain ⟨k, q, hk, rfl, rfl⟩ := hrel
    by_cases hlt : k < prs.length
    · obtain ⟨g, g', rfl, rfl, h1, h2⟩ := HR.out k hlt
      have hpr := HP.out _ (List.getElem_mem hlt)
      obtain ⟨p1, q1, len1, cap1, e, hl1, hm1, _⟩ := id hpr
      obtain ⟨zs, _, hzr, _⟩ := (e ▸ hpr : Pr R (.slice p1 len1 cap1, .slice q1 len1 cap1)).reads HT.out cap1 (Nat.le_refl _)
      have RD := Lib.hid (fun n => (And.intro ((hzr cap1).1.drewN n) ((hzr cap1).2.drewN n)))
      clear hzr
      rw [e] at h1 h2
      clear e hpr
      simp only at h1 h2
      have hm1' : cap1 ≤ 9223372036854775807 := by omega
      go_wp2_with fail
      go_quiet ((go_at_call 48; exact quiet_at (equal_same (RD.out _).1 (RD.out _).2)))
      go_wp2_with fail
      go_roundw
      case rel => exact ⟨k + 1, _, by omega, by go_num, rfl⟩
      case measure => simp [intOf]; omega
    · have hkn : k = prs.length := by omega
      go_wp2_with fail
      go_ret
      exact ⟨rfl, q, rfl⟩

end Go.Proofs.Yteeiohhoccgafaa
