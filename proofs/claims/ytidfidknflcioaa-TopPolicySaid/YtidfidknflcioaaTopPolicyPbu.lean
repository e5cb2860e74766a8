/-
  between of a rope, and what holds of the sizes behind an edit. Conditions: numbers in their bounds.
-/
import Derived.Test.YtidfidknflcioaaTopPolicyPbt
namespace Go.Proofs.Ytidfidknflcioaa
open Go.RowKit
set_option linter.unusedVariables false

def betE (n : Nat) (f t : Int) : Int := if 0 ≤ f ∧ f ≤ n ∧ f ≤ t ∧ t ≤ n then 0 else 2

set_option maxHeartbeats 1000000 in
set_option maxRecDepth 100000 in
theorem between_any (I : RopI) (L : List Lm) (lv : Value) (F : Nat → Prop) (f t : Int) (w : World) (hm : RopeMem w F I L lv) (hl : L.length ≤ 60000) (ho : SzOk (L.map Lm.sz)) (hn : (totS (L.map Lm.sz)).1 ≤ 100000) :
    Calls Try.prog 32 #[.pointer (some ⟨I.r, 0, none⟩), .int .i64 f, .int .i64 t] w (fun e w' => e = .returned (.int .i64 (betE (totS (L.map Lm.sz)).1 f t)) ∧ Below w.heap.size w w') := by
  have c6 := hm.cells.2.2.2.2.2.2.1
  have LEN := Lib.hid (fun W (hW : Below w.heap.size w W) => len_any I L lv F W (hm.below hW) hl ho)
  obtain ⟨N, hN⟩ : ∃ N, (totS (L.map Lm.sz)).1 = N := ⟨_, rfl⟩
  rw [hN] at LEN hn ⊢
  clear hm hN ho
  have RET : ∀ (e : Ending) (w' : World), (e = .returned (.int .i64 ((N : Nat) : Int)) ∧ Below w.heap.size w w') → True := fun _ _ _ => trivial
  clear RET
  by_cases h1 : 0 ≤ f ∧ f ≤ N
  · by_cases h2 : f ≤ t ∧ t ≤ N
    · have hb : betE N f t = 0 := if_pos ⟨h1.1, h1.2, h2⟩
      rw [hb]
      clear hb
      have WY := Lib.hid (fun W => within_rope_yes f 0 N W h1.1 h1.2)
      have WZ := Lib.hid (fun W => within_rope_yes t f N W h2.1 h2.2)
      clear h1 h2
      go_enter Try.func32, Try.ntmps32
      go_wp2_with fail
      refine (LEN.out _ (Below.refl _ _)).mono ?_
      rintro e w1 ⟨rfl, hb1⟩
      have B1 := Lib.hid hb1
      clear hb1
      go_wp2_with fail
      refine (WY.out _).mono ?_
      rintro e w2 ⟨rfl, rfl⟩
      go_wp2_with fail
      refine (LEN.out _ B1.out).mono ?_
      rintro e w3 ⟨rfl, hb3⟩
      have B3 := Lib.hid (B1.out.trans (hb3.mono B1.out.size))
      clear hb3
      go_wp2_with fail
      refine (WZ.out _).mono ?_
      rintro e w4 ⟨rfl, rfl⟩
      go_wp2_with fail
      go_ret
      exact ⟨rfl, B3.out⟩
    · have hb : betE N f t = 2 := if_neg (fun h => h2 h.2.2)
      rw [hb]
      clear hb
      have WY := Lib.hid (fun W => within_rope_yes f 0 N W h1.1 h1.2)
      have WZ := Lib.hid (fun W => within_rope_no t f N W h2)
      clear h1 h2
      go_enter Try.func32, Try.ntmps32
      go_wp2_with fail
      refine (LEN.out _ (Below.refl _ _)).mono ?_
      rintro e w1 ⟨rfl, hb1⟩
      have B1 := Lib.hid hb1
      clear hb1
      go_wp2_with fail
      refine (WY.out _).mono ?_
      rintro e w2 ⟨rfl, rfl⟩
      go_wp2_with fail
      refine (LEN.out _ B1.out).mono ?_
      rintro e w3 ⟨rfl, hb3⟩
      have B3 := Lib.hid (B1.out.trans (hb3.mono B1.out.size))
      clear hb3
      go_wp2_with fail
      refine (WZ.out _).mono ?_
      rintro e w4 ⟨rfl, rfl⟩
      go_wp2_with fail
      go_ret
      exact ⟨rfl, B3.out⟩
  · have hb : betE N f t = 2 := if_neg (fun h => h1 ⟨h.1, h.2.1⟩)
    rw [hb]
    clear hb
    have WY := Lib.hid (fun W => within_rope_no f 0 N W h1)
    clear h1
    go_enter Try.func32, Try.ntmps32
    go_wp2_with fail
    refine (LEN.out _ (Below.refl _ _)).mono ?_
    rintro e w1 ⟨rfl, hb1⟩
    have B1 := Lib.hid hb1
    clear hb1
    go_wp2_with fail
    refine (WY.out _).mono ?_
    rintro e w2 ⟨rfl, rfl⟩
    go_wp2_with fail
    go_ret
    exact ⟨rfl, B1.out⟩

end Go.Proofs.Ytidfidknflcioaa
