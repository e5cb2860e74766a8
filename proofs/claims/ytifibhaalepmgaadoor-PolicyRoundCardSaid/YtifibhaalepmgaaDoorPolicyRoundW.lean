/-
  The walk of PolicyRound. Conditions: Go's own variables hold what their initialisers lay.
-/
import Derived.Test.YtifibhaalepmgaaDoorReadPolW
import Derived.Test.YtifibhaalepmgaaDoorPolRound
import Derived.Test.YtifibhaalepmgaaDoorRoomPoliciesW
import Derived.Test.YtifibhaalepmgaaDoorTurns
import Derived.Test.YtifibhaalepmgaaDoorLibOf
namespace Go.Proofs.YtifibhaalepmgaaDoor
open Go.RowKit
set_option linter.unusedVariables false

set_option maxHeartbeats 2000000 in
set_option maxRecDepth 100000 in
theorem policyRound (k s m : Int) (w : World) (_ : -9223372036854775808 ≤ k ∧ k ≤ 9223372036854775807) (hs : -9223372036854775808 ≤ s ∧ s ≤ 9223372036854775807) (hm : -9223372036854775808 ≤ m ∧ m ≤ 9223372036854775807) (hl : LibAt w) :
    Calls Tryd.prog 5 #[.agg #[.int .i64 k, .int .i64 s, .int .i64 m]] w (LawPost w) := by
  have B0 : Below w.heap.size w (w.alloc (.cells #[.int .i64 k, .int .i64 s, .int .i64 m] 23)) := by go_grown
  have LL : Hid (∀ {w' : World}, Below w.heap.size w w' → LibAt w') := Lib.hid (fun h => hl.below h)
  have HS := Lib.hid hs
  have HM := Lib.hid hm
  have HB0 := Lib.hid B0
  clear hl hs hm B0
  go_enter Tryd.func5, Tryd.ntmps5
  go_wp2_with fail
  refine (awakeRoom_any _).mono ?_
  rintro e w1 ⟨rfl, hb1⟩
  have X1 := box_keep (w := w) (o := .cells #[.int .i64 k, .int .i64 s, .int .i64 m] 23) (w' := w1) (hb1.mono (by simp))
  have y0 : w1.cell? ⟨w.heap.size, 0, none⟩ = some (.int .i64 k) := (cell_of X1 0).trans rfl
  have y1 : w1.cell? ⟨w.heap.size, 1, none⟩ = some (.int .i64 s) := (cell_of X1 1).trans rfl
  have y2 : w1.cell? ⟨w.heap.size, 2, none⟩ = some (.int .i64 m) := (cell_of X1 2).trans rfl
  have L1 := Lib.hid (HB0.out.trans (hb1.mono (by simp)))
  have P1 := Lib.hid (policyText_any k s m w1 (LL.out L1.out).tabs HS.out HM.out)
  have HX1 := Lib.hid X1
  clear hb1 X1
  go_wp2_with fail
  refine P1.out.mono ?_
  intro e w2 h2
  obtain ⟨rfl, hb2⟩ := h2.is
  have X2 := (hb2.block w.heap.size (lt_of HX1.out)).trans HX1.out
  have L2 := Lib.hid (L1.out.trans (hb2.mono L1.out.size))
  have HX2 := Lib.hid X2
  clear hb2 h2 X2 y0 y1 y2
  by_cases hp : polErr k s m = 0
  · have RP := readPolicy_any (polA k s m) w2 (LL.out L2.out)
    rw [show (polA k s m).data.toList = polText k s m by simp [polA], readPol_text k s m hp] at RP
    have HRP := Lib.hid RP
    rw [hp]
    clear RP hp
    go_wp2_with fail
    refine HRP.out.mono ?_
    rintro e w3 ⟨rfl, hb3⟩
    have X3 := (hb3.block w.heap.size (lt_of HX2.out)).trans HX2.out
    have z0 : w3.cell? ⟨w.heap.size, 0, none⟩ = some (.int .i64 k) := (cell_of X3 0).trans rfl
    have z1 : w3.cell? ⟨w.heap.size, 1, none⟩ = some (.int .i64 s) := (cell_of X3 1).trans rfl
    have z2 : w3.cell? ⟨w.heap.size, 2, none⟩ = some (.int .i64 m) := (cell_of X3 2).trans rfl
    have hlt := lt_of X3
    have L3 := Lib.hid (L2.out.trans (hb3.mono L2.out.size))
    have hn : ¬ w.heap.size = w3.heap.size := by omega
    have hn' : ¬ w3.heap.size = w.heap.size := by omega
    have hs3 := L3.out.size
    clear hb3 X3
    go_wp2_with fail
    all_goals
      go_ret
      exact ⟨by first | rfl | exact ret_bool (by simp), L3.out.trans (by go_grown)⟩
  · have e0 : (polA k s m).toList = [] := by rw [ByteArray.toList_eq]; unfold polA polText; rw [if_neg hp]
    have hp' : (polErr k s m == 0) = false := by simpa using hp
    generalize polErr k s m = pe at *
    clear hp
    go_wp2_with fail
    go_ret
    exact ⟨by first | rfl | exact ret_bool (by simp [e0]), L2.out⟩

theorem policyRoundC (k s m : Int) (w : World) (hk : -9223372036854775808 ≤ k ∧ k ≤ 9223372036854775807) (hs : -9223372036854775808 ≤ s ∧ s ≤ 9223372036854775807) (hm : -9223372036854775808 ≤ m ∧ m ≤ 9223372036854775807) (hl : LibBut w) (hsh : w.ShapedOpen Tryd.prog) :
    Calls Tryd.prog 5 #[.agg #[.int .i64 k, .int .i64 s, .int .i64 m]] w (LawPost w) :=
  policyRound k s m w hk hs hm (hl.lib hsh)

end Go.Proofs.YtifibhaalepmgaaDoor
