/-
  DERIVED. GIVEN WITH THE SEED: THE CARDS: each row of YtljjndifmfhffaaGreatDoorRows.lean that lists a variable, with what it lists TIED to the program's text (the seventh form; the later family's looks); each row that meets fmt, with fmt's text TOLD by the authors' own Lean function (tested against real Go, not proved from fmt's source: count such statements apart). THE CARD IS WHAT COUNTS. Prove the row's statement (the work); the ties are given (YtljjndifmfhffaaGreatDoorTie.lean); close each card by the builder's one call (the guide's Derived/Test/ToyasCard.lean, 'card_holds'). Laid BY PROGRAM, IN A SANDBOX (cutbox-door.mjs). By AI agents, Wed Nov 11 2026. No macro, syntax, notation, axiom, sorry.
-/
import Derived.Test.YtljjndifmfhffaaGreatDoorRows
import GoSem.ClaimSeven
namespace Go.Proofs.YtljjndifmfhffaaGreatDoor
namespace Rows

/-- THE TIED CARD OF 'cornlaw1.LedgerChecks'. -/
def ledgerChecksCard : Claim7 := { stood := { row := ledgerChecksRow, standIns := [], harness := (true, "e63925dd7acd638b95d7ed16d508a04371966ef59c0bd64ccc3b33e65b03d03a"), looks := false }, kinds := [], alts := [], laidByText := true, laidKinds := [.data, .data, .data, .listed, .data, .widerDeep], laidTests := true, laidLooks := .later }
def LedgerChecksCardSaid : Prop := Claim7.holds Tryz.pinned (.plain (OpenSpec.ofChange ledgerChecksSpec)) ledgerChecksCard

/-- THE SECOND FORM's CARD OF 'cornlaw1.LedgerChecks'. -/
def ledgerChecksUptoCard : Claim7 := { stood := { row := ledgerChecksUptoRow, standIns := [], harness := (true, "e63925dd7acd638b95d7ed16d508a04371966ef59c0bd64ccc3b33e65b03d03a"), looks := false }, kinds := [], alts := [], laidByText := true, laidKinds := [.data, .data, .data, .listed, .data, .widerDeep], laidTests := true, laidLooks := .later }
def LedgerChecksUptoCardSaid : Prop := Claim7.holds Tryz.pinned (.plain (OpenSpec.upto ledgerChecksSpec)) ledgerChecksUptoCard
end Rows
end Go.Proofs.YtljjndifmfhffaaGreatDoor
