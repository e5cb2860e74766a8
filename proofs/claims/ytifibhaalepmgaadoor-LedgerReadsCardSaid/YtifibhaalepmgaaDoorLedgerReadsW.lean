/-
  The walk of LedgerReads. Conditions: Go's own variables, and the reference's words, hold what their initialisers lay.
-/
import Derived.Test.YtifibhaalepmgaaDoorReadEntOf
import Derived.Test.YtifibhaalepmgaaDoorLibOf
namespace Go.Proofs.YtifibhaalepmgaaDoor
open Go Go.RowKit Go.ChangeShapes Go.WideShapes Go.ChangeAt
set_option linter.unusedVariables false

theorem laid_lreads {W : World} (h0 : laidMetH Tryd.prog Rows.ledgerReadsRow.laid W) : LibBut W ∧ WordsAt 1 entXs W := by
  have h : laidMet Tryd.prog Rows.ledgerReadsRow.laid W := by
    rw [← MakeChecks.laidMetH_plain _ _ _ (by kernel_rfl)]; exact h0
  exact ⟨⟨tabs_of h.tail.tail h.tail.tail.tail.tail.tail.tail.tail, sent (g := 6) h.tail.tail.tail.tail.tail (by kernel_rfl) (by kernel_rfl), sent (g := 7) h.tail.tail.tail.tail (by kernel_rfl) (by kernel_rfl)⟩,
    words_of (by kernel_rfl) (by decide) (by kernel_rfl) (by kernel_rfl) h.tail.tail.tail.tail.tail.tail.tail.tail⟩

set_option maxHeartbeats 2000000 in
set_option maxRecDepth 100000 in
theorem ledgerReads (s : ByteArray) (w : World) (hl : LibAt w) (hw : WordsAt 1 entXs w) :
    Calls Tryd.prog 8 #[.string s] w (LawPost w) := by
  have P1 := Lib.hid (readEntries_any s w hl)
  have P2 : Hid (∀ w', Below w.heap.size w w' → Calls Tryd.prog 25 #[.string s] w' (ReadPost (readEns s.data.toList) w')) := Lib.hid (fun w' hb => readEntriesOf_any s w' (hl.below hb) (hw.below hb))
  generalize readEns s.data.toList = R at *
  obtain ⟨L, er⟩ := R
  clear hl hw
  go_enter Tryd.func8, Tryd.ntmps8
  go_wp2_with fail
  refine P1.out.mono ?_
  rintro e w1 ⟨v1, rfl, hv1, hb1⟩
  have B1 := Lib.hid hb1
  have V1 := Lib.hid hv1
  clear hb1 hv1
  go_wp2_with fail
  refine (P2.out _ B1.out).mono ?_
  rintro e w2 ⟨v2, rfl, hv2, hb2⟩
  have B2 := Lib.hid (B1.out.trans (hb2.mono B1.out.size))
  have EQ := Lib.hid (equal_ents v1 v2 L w2 (V1.out.below hb2) hv2)
  clear hb2 hv2
  go_wp2_with fail
  refine EQ.out.mono ?_
  rintro e w3 ⟨rfl, q, rfl⟩
  go_wp2_with fail
  go_ret
  exact ⟨by first | rfl | exact ret_bool (by simp), bdrewN B2.out q⟩

theorem ledgerReadsC (s : ByteArray) (w : World) (_ : s.size ≤ maxLen) (hl : LibBut w ∧ WordsAt 1 entXs w) (hsh : w.ShapedOpen Tryd.prog) :
    Calls Tryd.prog 8 #[.string s] w (LawPost w) :=
  ledgerReads s w (hl.1.lib hsh) hl.2

end Go.Proofs.YtifibhaalepmgaaDoor
