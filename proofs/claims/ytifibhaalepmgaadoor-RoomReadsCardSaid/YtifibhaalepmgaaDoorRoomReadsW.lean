/-
  The walk of RoomReads. Conditions: Go's own variables, and the reference's words, hold what their initialisers lay.
-/
import Derived.Test.YtifibhaalepmgaaDoorReadPolW
import Derived.Test.YtifibhaalepmgaaDoorReadOfW
import Derived.Test.YtifibhaalepmgaaDoorLibRead
namespace Go.Proofs.YtifibhaalepmgaaDoor
open Go.RowKit
set_option linter.unusedVariables false

set_option maxHeartbeats 2000000 in
set_option maxRecDepth 100000 in
theorem roomReads (s : ByteArray) (w : World) (hl : LibAt w) (hw : WordsAt 0 polXs w) :
    Calls Tryd.prog 7 #[.string s] w (LawPost w) := by
  have P1 := Lib.hid (readPolicy_any s w hl)
  have P2 : Hid (∀ w', Below w.heap.size w w' → Calls Tryd.prog 24 #[.string s] w' (ReadIs (readPol s.data.toList) w')) := Lib.hid (fun w' hb => readPolicyOf_any s w' (hl.below hb) (hw.below hb))
  generalize readPol s.data.toList = R at *
  obtain ⟨k, st, m, er⟩ := R
  clear hl hw
  go_enter Tryd.func7, Tryd.ntmps7
  go_wp2_with fail
  refine P1.out.mono ?_
  rintro e w1 ⟨rfl, hb1⟩
  have L1 := Lib.hid hb1
  clear hb1
  have B1 := Lib.hid (L1.out.alloc L1.out.size (.cells #[.int .i64 k, .int .i64 st, .int .i64 m] 23))
  go_wp2_with fail
  refine (P2.out _ B1.out).mono ?_
  rintro e w2 ⟨rfl, hb2⟩
  have X2 := (hb2.block w1.heap.size (by simp)).trans (heap_alloc_new w1 _)
  have L2 := Lib.hid (B1.out.trans (hb2.mono B1.out.size))
  have z0 : w2.cell? ⟨w1.heap.size, 0, none⟩ = some (.int .i64 k) := (cell_of X2 0).trans rfl
  have z1 : w2.cell? ⟨w1.heap.size, 1, none⟩ = some (.int .i64 st) := (cell_of X2 1).trans rfl
  have z2 : w2.cell? ⟨w1.heap.size, 2, none⟩ = some (.int .i64 m) := (cell_of X2 2).trans rfl
  have hlt := lt_of X2
  have hs2 := L2.out.size
  have hn : ¬ w1.heap.size = w2.heap.size := by omega
  have hn' : ¬ w2.heap.size = w1.heap.size := by omega
  clear hb2 X2
  go_wp2_with fail
  all_goals
    go_ret
    exact ⟨by first | rfl | exact ret_bool (by simp), by first | exact L2.out | exact L2.out.trans (by go_grown)⟩

theorem roomReadsC (s : ByteArray) (w : World) (_ : s.size ≤ maxLen) (hl : LibBut w ∧ WordsAt 0 polXs w) (hsh : w.ShapedOpen Tryd.prog) :
    Calls Tryd.prog 7 #[.string s] w (LawPost w) :=
  roomReads s w (hl.1.lib hsh) hl.2

end Go.Proofs.YtifibhaalepmgaaDoor
