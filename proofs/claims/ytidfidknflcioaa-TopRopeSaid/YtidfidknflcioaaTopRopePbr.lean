/-
  room.Trim of a leaf, and Trim of a rope. Conditions: numbers in their bounds.
-/
import Derived.Test.YtidfidknflcioaaTopRopePbq
import Derived.Test.YtidfidknflcioaaTopRopePap
namespace Go.Proofs.Ytidfidknflcioaa
open Go.RowKit
set_option linter.unusedVariables false

def RPar.sh (p : RPar) (room used : Nat) : Nat := (shrinkV p.k p.s p.m room used).toNat
theorem POk.sh {p : RPar} (h : POk p) {room used : Nat} (hr : room ≤ 100000) (hu : used ≤ room) : shrinkE p.k p.s p.m room used = 0 ∧ shrinkV p.k p.s p.m room used = (p.sh room used : Nat) ∧ used ≤ p.sh room used ∧ p.sh room used ≤ room := by
  have he : shrinkE p.k p.s p.m room used = 0 := by
    unfold shrinkE
    rw [if_pos h.pol, if_pos ⟨⟨by omega, by omega⟩, ⟨by omega, by omega⟩⟩]
  have hf := shrink_facts p.k p.s p.m room used he
  unfold RPar.sh
  refine ⟨he, ?_, ?_, ?_⟩ <;> omega

def trimS (p : RPar) (l : List Sz) : List Sz := l.map fun q => (q.1, p.sh q.2 q.1)
def trimC (p : RPar) (l : List Lc) : List Lc := l.map fun x => (x.1, p.sh x.2 x.1.length)
theorem trimC_sz (p : RPar) (l : List Lc) : (trimC p l).map szC = trimS p (l.map szC) := by
  unfold trimC trimS
  rw [List.map_map, List.map_map]
  rfl
theorem trimC_oct (p : RPar) (l : List Lc) : octC (trimC p l) = octC l := by
  unfold octC trimC
  rw [List.flatMap_map]

def TrimB (g : Nat) (cs : List Int) (n R : Nat) (w : World) : Ending → World → Prop := fun e w' =>
  ∃ g' ds b, e = .returned (.tuple #[.slice (some ⟨g', 0, none⟩) n R, .bool b, .int .i64 0]) ∧ byteRow w' g' ds ∧ ds.length = R ∧ bytes ds ∧ ds.take n = cs.take n ∧ (g' = g ∨ w.heap.size ≤ g') ∧ Below w.heap.size w w'

set_option maxHeartbeats 1000000 in
set_option maxRecDepth 100000 in
theorem trimB_any (p : RPar) (g : Nat) (cs : List Int) (n cap : Nat) (w : World) (hp : POk p) (hr : byteRow w g cs) (hcl : cs.length = cap) (hc : cap ≤ 100000) (hn : n ≤ cap) (hbc : bytes cs) :
    Calls Try.prog 54 #[.agg #[.int .i64 p.k, .int .i64 p.s, .int .i64 p.m], .slice (some ⟨g, 0, none⟩) n cap] w (TrimB g cs n (p.sh cap n) w) := by
  obtain ⟨e1, e2, e3, e4⟩ := hp.sh hc hn
  have B0 := BoxAt.new w p.k p.s p.m 23
  have bel0 : Below w.heap.size w (w.alloc (.cells #[.int .i64 p.k, .int .i64 p.s, .int .i64 p.m] 23)) := by go_grown
  have BG := Lib.hid (fun W => begins_any p.k p.s p.m (some ⟨g, 0, none⟩) n cap (.slice none 0 0) [] W hp.pol hc ⟨none, 0, rfl, by simp, fun h => absurd rfl h⟩ (by simp))
  have SH := Lib.hid (fun W => shrink_any p.k p.s p.m cap n W)
  rw [e1, e2] at SH
  obtain ⟨R, hR⟩ : ∃ R, p.sh cap n = R := ⟨_, rfl⟩
  rw [hR] at SH e3 e4 ⊢
  have HR := Lib.hid hr
  have HC := Lib.hid (And.intro hcl hbc)
  have HB0 := Lib.hid bel0
  clear hp hr e1 e2 hR hcl hbc
  go_enter Try.func54, Try.ntmps54
  go_wp2_with fail
  refine (BG.out _).mono ?_
  rintro e w1 ⟨rfl, hb1⟩
  obtain ⟨x0, x1, x2, x3⟩ := B0.below hb1
  have B1 := Lib.hid (HB0.out.trans (hb1.mono (by simp)))
  clear B0 hb1 BG bel0
  go_wp2_with fail
  refine (SH.out _).mono ?_
  rintro e w2 ⟨rfl, hb2⟩
  have B2 := Lib.hid (B1.out.trans (hb2.mono B1.out.size))
  have r2 : byteRow w2 g cs := (B2.out.block g (lt_of HR.out)).trans HR.out
  have R2 := Lib.hid r2
  clear x0 x1 x2 x3 hb2 r2 SH
  by_cases hlt : R < cap
  · have hlt' : ((R : Int) < (cap : Int)) := by omega
    have RD : Reads w2 .u8 (.slice (some ⟨g, 0, none⟩) n cap) (cs.take n) := by
      have := Lm.reads (w := w2) (x := ⟨g, cs, n⟩) R2.out ⟨by rw [HC.out.1]; exact hn, by rw [HC.out.1]; exact hc, HC.out.2⟩
      rw [HC.out.1] at this
      exact this
    have hl : (cs.take n).length = n := by rw [List.length_take, HC.out.1]; omega
    have CP := Lib.hid (copiedN_any _ _ (n : Int) (R : Int) w2 RD (by omega) (by omega) (by omega))
    rw [hl] at CP
    have HL := Lib.hid hl
    clear RD hl
    go_wp2_with fail
    refine CP.out.mono ?_
    rintro e w3 ⟨g', hg', rfl, hr3, hb3⟩
    have FIN : Hid (TrimB g cs n R w (.returned (.tuple #[.slice (some ⟨g', 0, none⟩) n R, .bool true, .int .i64 0])) w3) := Lib.hid ⟨g', _, true, rfl, hr3, by
      rw [List.length_append, HL.out]; simp [zeros]; omega, by
      intro z hz
      rcases List.mem_append.1 hz with hz | hz
      · exact HC.out.2 z (List.mem_of_mem_take hz)
      · unfold zeros at hz
        rw [List.eq_of_mem_replicate hz]
        omega, List.take_left' HL.out, Or.inr (Nat.le_trans B2.out.size hg'), B2.out.trans (hb3.mono B2.out.size)⟩
    have z1 : (n : Int).toNat = n := rfl
    have z2 : (R : Int).toNat = R := rfl
    clear hr3 hb3 CP hg'
    rw [z1, z2]
    go_wp2_with fail
    go_ret3
    exact FIN.out
  · obtain rfl : R = cap := by omega
    have FIN : Hid (TrimB g cs n R w (.returned (.tuple #[.slice (some ⟨g, 0, none⟩) n R, .bool false, .int .i64 0])) w2) := Lib.hid ⟨g, cs, false, rfl, R2.out, HC.out.1, HC.out.2, rfl, Or.inl rfl, B2.out⟩
    clear hlt
    go_wp2_with fail
    go_ret3
    exact FIN.out

end Go.Proofs.Ytidfidknflcioaa
