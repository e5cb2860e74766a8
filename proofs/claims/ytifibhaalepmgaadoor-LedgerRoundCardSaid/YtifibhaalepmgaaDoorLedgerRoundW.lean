/-
  The walk of LedgerRound. Conditions: Go's own variables hold what their initialisers lay.
-/
import Derived.Test.YtifibhaalepmgaaDoorReadEnts
import Derived.Test.YtifibhaalepmgaaDoorEqualE
import Derived.Test.YtifibhaalepmgaaDoorLibOf
namespace Go.Proofs.YtifibhaalepmgaaDoor
open Go Go.RowKit
set_option linter.unusedVariables false

theorem awakeL_any (w : World) : Calls Tryd.prog 20 #[] w (LawPost w) := by
  go_enter Tryd.func20, Tryd.ntmps20
  go_wp2_with (first | (go_at_call 40; refine (within_ledger_no _ _ _ _ (by omega)).mono ?_; rintro e w' ⟨rfl, rfl⟩) | go_in)
  go_ret
  exact ⟨rfl, Below.refl _ _⟩

set_option maxHeartbeats 2000000 in
set_option maxRecDepth 100000 in
theorem ledgerRound (v : Value) (L : List En) (w : World) (hr : EnsIn w v L) (hl : LibAt w) :
    Calls Tryd.prog 6 #[v] w (LawPost w) := by
  have LL : Hid (∀ {w' : World}, Below w.heap.size w w' → LibAt w') := Lib.hid (fun h => hl.below h)
  have HR := Lib.hid hr
  clear hl hr
  go_enter Tryd.func6, Tryd.ntmps6
  go_wp2_with fail
  refine (awakeL_any _).mono ?_
  rintro e w1 ⟨rfl, hb1⟩
  have B1 := Lib.hid hb1
  clear hb1
  have ET := entriesText_any v L w1 (LL.out B1.out).tabs (HR.out.below B1.out)
  unfold ETextPost at ET
  by_cases hp : listErr L = 0
  · have ET2 : entText L = ⟨(ensText L).toArray⟩ := by unfold entText; rw [if_pos hp]
    have RE : ∀ W, LibAt W → Calls Tryd.prog 22 #[.string (entText L)] W (ReadPost (L, 0) W) := fun W hW => by
      have := readEntries_any (entText L) W hW
      rw [ET2] at this ⊢
      simp only at this
      rw [readEns_text L hp] at this
      exact this
    rw [hp] at ET
    have HET := Lib.hid ET
    have HRE := Lib.hid RE
    clear ET RE ET2 hp
    go_wp2_with fail
    refine HET.out.mono ?_
    rintro e w2 ⟨rfl, hb2⟩
    have B2 := Lib.hid (B1.out.trans (hb2.mono B1.out.size))
    clear hb2
    go_wp2_with fail
    refine (HRE.out w2 (LL.out B2.out)).mono ?_
    rintro e w3 ⟨v3, rfl, hv3, hb3⟩
    have B3 := Lib.hid (B2.out.trans (hb3.mono B2.out.size))
    have EQ := Lib.hid (equal_ents v v3 L w3 (HR.out.below B3.out) hv3)
    clear hb3 hv3
    go_wp2_with fail
    refine EQ.out.mono ?_
    rintro e w4 ⟨rfl, q, rfl⟩
    go_wp2_with fail
    go_ret
    exact ⟨by first | rfl | exact ret_bool (by simp), bdrewN B3.out q⟩
  · have ET2 : entText L = ⟨#[]⟩ := entText_bad rfl hp
    rw [ET2] at ET
    have HET := Lib.hid ET
    have hp' : (listErr L == 0) = false := by simpa using hp
    generalize listErr L = pe at *
    clear ET ET2 hp
    go_wp2_with fail
    refine HET.out.mono ?_
    rintro e w2 ⟨rfl, hb2⟩
    have B2 := Lib.hid (B1.out.trans (hb2.mono B1.out.size))
    clear hb2
    go_wp2_with fail
    go_ret
    exact ⟨by first | rfl | exact ret_bool (by simp), B2.out⟩

theorem ledgerRoundC (v : Value) (L : List En) (w : World) (hr : EnsIn w v L) (hl : LibBut w) (hsh : w.ShapedOpen Tryd.prog) :
    Calls Tryd.prog 6 #[v] w (LawPost w) :=
  ledgerRound v L w hr (hl.lib hsh)

end Go.Proofs.YtifibhaalepmgaaDoor
