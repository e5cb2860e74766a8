/-
  DERIVED. GIVEN WITH THE SEED: THE CARDS: each row of YtifibhaalepmgaaDoorRows.lean that lists a variable, with what it lists TIED to the program's text (the seventh form; the later family's looks); each row that meets fmt, with fmt's text TOLD by the authors' own Lean function (tested against real Go, not proved from fmt's source: count such statements apart). THE CARD IS WHAT COUNTS. Prove the row's statement (the work); the ties are given (YtifibhaalepmgaaDoorTie.lean); close each card by the builder's one call (the guide's Derived/Test/ToyasCard.lean, 'card_holds'). Laid BY PROGRAM, IN A SANDBOX (cutbox-door.mjs). By AI agents, Wed Nov 11 2026. No macro, syntax, notation, axiom, sorry.
-/
import Derived.Test.YtifibhaalepmgaaDoorRows
import GoSem.ClaimSeven
namespace Go.Proofs.YtifibhaalepmgaaDoor
namespace Rows

/-- THE TIED CARD OF 'cornlaw1.RoomPolicies'. -/
def roomPoliciesCard : Claim7 := { stood := { row := roomPoliciesRow, standIns := [], harness := (true, "2a21d39b592829e1e7471e243339ac528b7f7654d15303db97c28a1c7fbc29f1"), looks := true }, kinds := [], alts := [], laidByText := true, laidKinds := [.data, .data, .data, .listed, .data, .widerDeep], laidTests := true, laidLooks := .later }
def RoomPoliciesCardSaid : Prop := Claim7.holds Tryd.pinned (.plain (OpenSpec.ofChange roomPoliciesSpec)) roomPoliciesCard

/-- THE TIED CARD OF 'cornlaw1.ScriptOctets'. -/
def scriptOctetsCard : Claim7 := { stood := { row := scriptOctetsRow, standIns := [], harness := (true, "2a21d39b592829e1e7471e243339ac528b7f7654d15303db97c28a1c7fbc29f1"), looks := true }, kinds := [], alts := [], laidByText := true, laidKinds := [.data, .data, .data, .sentinel, .sentinel], laidTests := true, laidLooks := .later }
def ScriptOctetsCardSaid : Prop := Claim7.holds Tryd.pinned (.plain (OpenSpec.ofChange scriptOctetsSpec)) scriptOctetsCard

/-- THE TIED CARD OF 'cornkeep1.PolicyRound'. -/
def policyRoundCard : Claim7 := { stood := { row := policyRoundRow, standIns := [], harness := (true, "2a21d39b592829e1e7471e243339ac528b7f7654d15303db97c28a1c7fbc29f1"), looks := true }, kinds := [], alts := [], laidByText := true, laidKinds := [.data, .data, .data, .data, .sentinel, .sentinel, .listed, .data, .pinned], laidTests := true, laidLooks := .later }
def PolicyRoundCardSaid : Prop := Claim7.holds Tryd.pinned (.plain (OpenSpec.ofChange policyRoundSpec)) policyRoundCard

/-- THE TIED CARD OF 'cornkeep1.LedgerRound'. -/
def ledgerRoundCard : Claim7 := { stood := { row := ledgerRoundRow, standIns := [], harness := (true, "2a21d39b592829e1e7471e243339ac528b7f7654d15303db97c28a1c7fbc29f1"), looks := true }, kinds := [], alts := [], laidByText := true, laidKinds := [.data, .data, .data, .data, .sentinel, .sentinel, .listed, .data, .pinned], laidTests := true, laidLooks := .later }
def LedgerRoundCardSaid : Prop := Claim7.holds Tryd.pinned (.plain (OpenSpec.ofChange ledgerRoundSpec)) ledgerRoundCard

/-- THE TIED CARD OF 'cornlaw1.RoomReads'. -/
def roomReadsCard : Claim7 := { stood := { row := roomReadsRow, standIns := [], harness := (true, "2a21d39b592829e1e7471e243339ac528b7f7654d15303db97c28a1c7fbc29f1"), looks := true }, kinds := [], alts := [], laidByText := true, laidKinds := [.data, .data, .data, .data, .sentinel, .sentinel, .listed, .data, .widerDeep, .pinned], laidTests := true, laidLooks := .later }
def RoomReadsCardSaid : Prop := Claim7.holds Tryd.pinned (.plain (OpenSpec.ofChange roomReadsSpec)) roomReadsCard

/-- THE TIED CARD OF 'cornlaw1.LedgerReads'. -/
def ledgerReadsCard : Claim7 := { stood := { row := ledgerReadsRow, standIns := [], harness := (true, "2a21d39b592829e1e7471e243339ac528b7f7654d15303db97c28a1c7fbc29f1"), looks := true }, kinds := [], alts := [], laidByText := true, laidKinds := [.data, .data, .data, .data, .sentinel, .sentinel, .listed, .data, .widerDeep, .pinned], laidTests := true, laidLooks := .later }
def LedgerReadsCardSaid : Prop := Claim7.holds Tryd.pinned (.plain (OpenSpec.ofChange ledgerReadsSpec)) ledgerReadsCard

/-- THE SECOND FORM's CARD OF 'cornlaw1.RoomPolicies'. -/
def roomPoliciesUptoCard : Claim7 := { stood := { row := roomPoliciesUptoRow, standIns := [], harness := (true, "2a21d39b592829e1e7471e243339ac528b7f7654d15303db97c28a1c7fbc29f1"), looks := true }, kinds := [], alts := [], laidByText := true, laidKinds := [.data, .data, .data, .listed, .data, .widerDeep], laidTests := true, laidLooks := .later }
def RoomPoliciesUptoCardSaid : Prop := Claim7.holds Tryd.pinned (.plain (OpenSpec.upto roomPoliciesSpec)) roomPoliciesUptoCard

/-- THE SECOND FORM's CARD OF 'cornlaw1.ScriptOctets'. -/
def scriptOctetsUptoCard : Claim7 := { stood := { row := scriptOctetsUptoRow, standIns := [], harness := (true, "2a21d39b592829e1e7471e243339ac528b7f7654d15303db97c28a1c7fbc29f1"), looks := true }, kinds := [], alts := [], laidByText := true, laidKinds := [.data, .data, .data, .sentinel, .sentinel], laidTests := true, laidLooks := .later }
def ScriptOctetsUptoCardSaid : Prop := Claim7.holds Tryd.pinned (.plain (OpenSpec.upto scriptOctetsSpec)) scriptOctetsUptoCard

/-- THE SECOND FORM's CARD OF 'cornkeep1.PolicyRound'. -/
def policyRoundUptoCard : Claim7 := { stood := { row := policyRoundUptoRow, standIns := [], harness := (true, "2a21d39b592829e1e7471e243339ac528b7f7654d15303db97c28a1c7fbc29f1"), looks := true }, kinds := [], alts := [], laidByText := true, laidKinds := [.data, .data, .data, .data, .sentinel, .sentinel, .listed, .data, .pinned], laidTests := true, laidLooks := .later }
def PolicyRoundUptoCardSaid : Prop := Claim7.holds Tryd.pinned (.plain (OpenSpec.upto policyRoundSpec)) policyRoundUptoCard

/-- THE SECOND FORM's CARD OF 'cornkeep1.LedgerRound'. -/
def ledgerRoundUptoCard : Claim7 := { stood := { row := ledgerRoundUptoRow, standIns := [], harness := (true, "2a21d39b592829e1e7471e243339ac528b7f7654d15303db97c28a1c7fbc29f1"), looks := true }, kinds := [], alts := [], laidByText := true, laidKinds := [.data, .data, .data, .data, .sentinel, .sentinel, .listed, .data, .pinned], laidTests := true, laidLooks := .later }
def LedgerRoundUptoCardSaid : Prop := Claim7.holds Tryd.pinned (.plain (OpenSpec.upto ledgerRoundSpec)) ledgerRoundUptoCard

/-- THE SECOND FORM's CARD OF 'cornlaw1.RoomReads'. -/
def roomReadsUptoCard : Claim7 := { stood := { row := roomReadsUptoRow, standIns := [], harness := (true, "2a21d39b592829e1e7471e243339ac528b7f7654d15303db97c28a1c7fbc29f1"), looks := true }, kinds := [], alts := [], laidByText := true, laidKinds := [.data, .data, .data, .data, .sentinel, .sentinel, .listed, .data, .widerDeep, .pinned], laidTests := true, laidLooks := .later }
def RoomReadsUptoCardSaid : Prop := Claim7.holds Tryd.pinned (.plain (OpenSpec.upto roomReadsSpec)) roomReadsUptoCard

/-- THE SECOND FORM's CARD OF 'cornlaw1.LedgerReads'. -/
def ledgerReadsUptoCard : Claim7 := { stood := { row := ledgerReadsUptoRow, standIns := [], harness := (true, "2a21d39b592829e1e7471e243339ac528b7f7654d15303db97c28a1c7fbc29f1"), looks := true }, kinds := [], alts := [], laidByText := true, laidKinds := [.data, .data, .data, .data, .sentinel, .sentinel, .listed, .data, .widerDeep, .pinned], laidTests := true, laidLooks := .later }
def LedgerReadsUptoCardSaid : Prop := Claim7.holds Tryd.pinned (.plain (OpenSpec.upto ledgerReadsSpec)) ledgerReadsUptoCard
end Rows
end Go.Proofs.YtifibhaalepmgaaDoor
