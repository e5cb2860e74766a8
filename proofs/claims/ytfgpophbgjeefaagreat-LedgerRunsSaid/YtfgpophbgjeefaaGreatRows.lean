/-
  No cell of these rows narrows 'for every input' (looked for: loops, veiled, ifaces, maps, wideKeys, modest, calm, conditions, laid).
  DERIVED. THE GIVEN ROWS OF THIS SEAT. 4 by the template 'for every input the law returns true; each argument reads behind the call as it read before'; 0 by the template 'total and deterministic' (their statements: YtfgpophbgjeefaaGreatTotals.lean).
  GIVEN WITH THE SEED: the statements are not yours to turn. If you find one false, say at which input.
  Laid BY PROGRAM, IN A SANDBOX (cutbox-rows.mjs): the forced cells as the released guide's own fill.sh prints them over the translation a2c30b7b9d4377a4… (all of the seat's roots in one cut). By AI agents, Wed Nov 11 2026. No macro, syntax, notation, axiom, sorry.
-/
import Derived.Test.YtfgpophbgjeefaaGreatChecked
import GoSem.Claim
import GoSem.ClaimJoined
import GoSem.ClaimMapViews
import Derived.JoinedTies
import Derived.KernelRfl
namespace Go.Proofs.YtfgpophbgjeefaaGreat
/- THE CELL 'sum', in the pinned program and in every row, IS THE sha256 OF THE DUMP (.gsa) THAT YtfgpophbgjeefaaGreatProg.lean LOADS. Nothing in Lean hashes anything: it is a label: what it is worth is what the hold of that sum in a sandbox is worth. -/
noncomputable def Tryz.pinned : Pinned := { name := "ytfgpophbgjeefaagreat", sum := "a2c30b7b9d4377a49b31eb71fb4aca8d2603c295c851b65ab4e09492af19e389", checked := Tryz.checked }
namespace Rows
def none {H : Type} : Left H := { results := [], args := [] }

/-- 'cornlaw1.QueueRuns': WHATEVER THE INPUT: true; the input reads as it did. -/
def queueRunsSpec : ChangeSpec := { name := "queueRuns", fn := fun _ => fun
  | [d1, d2, d3, d4, d5, d6, d7, d8] => { results := [.lit (.bool true)], args := [d1, d2, d3, d4, d5, d6, d7, d8] }
  | _ => none }
def queueRunsRow : OpenClaim := { program := "ytfgpophbgjeefaagreat", sum := "a2c30b7b9d4377a49b31eb71fb4aca8d2603c295c851b65ab4e09492af19e389", func := "corncrib/cornlaw1.QueueRuns", spec := "queueRuns", unfollowed := true, recurses := true, apart := false }
def QueueRunsSaid : Prop := queueRunsRow.holds Tryz.pinned (OpenSpec.ofChange queueRunsSpec)

/-- ITS FALSE NEIGHBOUR: 'it returns false'. Refute it at one input. -/
def queueRunsWrong : ChangeSpec := { name := "queueRuns", fn := fun _ => fun
  | [d1, d2, d3, d4, d5, d6, d7, d8] => { results := [.lit (.bool false)], args := [d1, d2, d3, d4, d5, d6, d7, d8] }
  | _ => none }
def QueueRunsWrongFalsely : Prop := queueRunsRow.holds Tryz.pinned (OpenSpec.ofChange queueRunsWrong)

/-- 'cornlaw1.ArenaRuns': WHATEVER THE INPUT: true; the input reads as it did. -/
def arenaRunsSpec : ChangeSpec := { name := "arenaRuns", fn := fun _ => fun
  | [d1, d2, d3, d4, d5, d6, d7] => { results := [.lit (.bool true)], args := [d1, d2, d3, d4, d5, d6, d7] }
  | _ => none }
def arenaRunsRow : OpenClaim := { program := "ytfgpophbgjeefaagreat", sum := "a2c30b7b9d4377a49b31eb71fb4aca8d2603c295c851b65ab4e09492af19e389", func := "corncrib/cornlaw1.ArenaRuns", spec := "arenaRuns", unfollowed := true, recurses := true, apart := false }
def ArenaRunsSaid : Prop := arenaRunsRow.holds Tryz.pinned (OpenSpec.ofChange arenaRunsSpec)

/-- ITS FALSE NEIGHBOUR: 'it returns false'. Refute it at one input. -/
def arenaRunsWrong : ChangeSpec := { name := "arenaRuns", fn := fun _ => fun
  | [d1, d2, d3, d4, d5, d6, d7] => { results := [.lit (.bool false)], args := [d1, d2, d3, d4, d5, d6, d7] }
  | _ => none }
def ArenaRunsWrongFalsely : Prop := arenaRunsRow.holds Tryz.pinned (OpenSpec.ofChange arenaRunsWrong)

/-- 'cornlaw1.RingRuns': WHATEVER THE INPUT: true; the input reads as it did. -/
def ringRunsSpec : ChangeSpec := { name := "ringRuns", fn := fun _ => fun
  | [d1, d2, d3, d4, d5, d6] => { results := [.lit (.bool true)], args := [d1, d2, d3, d4, d5, d6] }
  | _ => none }
def ringRunsRow : OpenClaim := { program := "ytfgpophbgjeefaagreat", sum := "a2c30b7b9d4377a49b31eb71fb4aca8d2603c295c851b65ab4e09492af19e389", func := "corncrib/cornlaw1.RingRuns", spec := "ringRuns", inPlace := ["internal/bytealg.IndexByte", "internal/bytealg.Index"], unfollowed := true, recurses := true, named := ["internal/bytealg.MaxLen"], apart := false }
def RingRunsSaid : Prop := ringRunsRow.holds Tryz.pinned (OpenSpec.ofChange ringRunsSpec)

/-- ITS FALSE NEIGHBOUR: 'it returns false'. Refute it at one input. -/
def ringRunsWrong : ChangeSpec := { name := "ringRuns", fn := fun _ => fun
  | [d1, d2, d3, d4, d5, d6] => { results := [.lit (.bool false)], args := [d1, d2, d3, d4, d5, d6] }
  | _ => none }
def RingRunsWrongFalsely : Prop := ringRunsRow.holds Tryz.pinned (OpenSpec.ofChange ringRunsWrong)

/-- 'cornlaw1.LedgerRuns': WHATEVER THE INPUT: true; the input reads as it did. -/
def ledgerRunsSpec : ChangeSpec := { name := "ledgerRuns", fn := fun _ => fun
  | [d1, d2] => { results := [.lit (.bool true)], args := [d1, d2] }
  | _ => none }
def ledgerRunsRow : OpenClaim := { program := "ytfgpophbgjeefaagreat", sum := "a2c30b7b9d4377a49b31eb71fb4aca8d2603c295c851b65ab4e09492af19e389", func := "corncrib/cornlaw1.LedgerRuns", spec := "ledgerRuns", unfollowed := true, recurses := true, apart := false }
def LedgerRunsSaid : Prop := ledgerRunsRow.holds Tryz.pinned (OpenSpec.ofChange ledgerRunsSpec)

/-- ITS FALSE NEIGHBOUR: 'it returns false'. Refute it at one input. -/
def ledgerRunsWrong : ChangeSpec := { name := "ledgerRuns", fn := fun _ => fun
  | [d1, d2] => { results := [.lit (.bool false)], args := [d1, d2] }
  | _ => none }
def LedgerRunsWrongFalsely : Prop := ledgerRunsRow.holds Tryz.pinned (OpenSpec.ofChange ledgerRunsWrong)

/- THE SECOND FORM. 'bulk': how many values and letters a reading holds, each counted each time it is reached (what is shared counts as often as it is met; a slice's spare places count too). A statement '..UptoSaid' is the law's where the arguments, and the package variables that the reading takes, are together of bulk at most 1048576: NARROWER than '..Said'. Prove '..Said' where nothing that the law and all that it calls make is longer than what came in: it says more and counts as full. Else prove '..UptoSaid'. A law counts once. -/
mutual
def uptoBulk {H : Type} : DataW H → Nat
  | .lit (.string bytes) => bytes.length + 1
  | .lit _ => 1
  | .nil => 1
  | .ptr d => uptoBulk d + 1
  | .slice elems spare => uptoBulkAll elems + uptoBulkAll spare + 1
  | .agg parts => uptoBulkAll parts + 1
  | .iface _ d => uptoBulk d + 1
  | .map entries => uptoBulkEntries entries + 1
  | .held _ => 1
def uptoBulkAll {H : Type} : List (DataW H) → Nat
  | [] => 0
  | d :: r => uptoBulk d + uptoBulkAll r
def uptoBulkEntries {H : Type} : List (Lit × DataW H) → Nat
  | [] => 0
  | x :: r => uptoBulkEntry x + uptoBulkEntries r
def uptoBulkEntry {H : Type} : Lit × DataW H → Nat
  | (.string bytes, d) => bytes.length + uptoBulk d + 1
  | (_, d) => uptoBulk d + 1
 end
def uptoSmall : (H : Type) → List (DataW H) → Bool := fun _ ds => decide (uptoBulkAll ds ≤ 1048576)
def OpenSpec.upto (s : _root_.Go.ChangeSpec) : _root_.Go.OpenSpec := { _root_.Go.OpenSpec.ofChange s with cond := some uptoSmall }

/-- 'cornlaw1.QueueRuns', WHERE WHAT IT READS IS OF BULK AT MOST 1048576: true; the input reads as it did. -/
def queueRunsUptoRow : OpenClaim := { program := "ytfgpophbgjeefaagreat", sum := "a2c30b7b9d4377a49b31eb71fb4aca8d2603c295c851b65ab4e09492af19e389", func := "corncrib/cornlaw1.QueueRuns", spec := "queueRuns", unfollowed := true, recurses := true, apart := false, narrowed := true }
def QueueRunsUptoSaid : Prop := queueRunsUptoRow.holds Tryz.pinned (OpenSpec.upto queueRunsSpec)

/-- 'cornlaw1.ArenaRuns', WHERE WHAT IT READS IS OF BULK AT MOST 1048576: true; the input reads as it did. -/
def arenaRunsUptoRow : OpenClaim := { program := "ytfgpophbgjeefaagreat", sum := "a2c30b7b9d4377a49b31eb71fb4aca8d2603c295c851b65ab4e09492af19e389", func := "corncrib/cornlaw1.ArenaRuns", spec := "arenaRuns", unfollowed := true, recurses := true, apart := false, narrowed := true }
def ArenaRunsUptoSaid : Prop := arenaRunsUptoRow.holds Tryz.pinned (OpenSpec.upto arenaRunsSpec)

/-- 'cornlaw1.RingRuns', WHERE WHAT IT READS IS OF BULK AT MOST 1048576: true; the input reads as it did. -/
def ringRunsUptoRow : OpenClaim := { program := "ytfgpophbgjeefaagreat", sum := "a2c30b7b9d4377a49b31eb71fb4aca8d2603c295c851b65ab4e09492af19e389", func := "corncrib/cornlaw1.RingRuns", spec := "ringRuns", inPlace := ["internal/bytealg.IndexByte", "internal/bytealg.Index"], unfollowed := true, recurses := true, named := ["internal/bytealg.MaxLen"], apart := false, narrowed := true }
def RingRunsUptoSaid : Prop := ringRunsUptoRow.holds Tryz.pinned (OpenSpec.upto ringRunsSpec)

/-- 'cornlaw1.LedgerRuns', WHERE WHAT IT READS IS OF BULK AT MOST 1048576: true; the input reads as it did. -/
def ledgerRunsUptoRow : OpenClaim := { program := "ytfgpophbgjeefaagreat", sum := "a2c30b7b9d4377a49b31eb71fb4aca8d2603c295c851b65ab4e09492af19e389", func := "corncrib/cornlaw1.LedgerRuns", spec := "ledgerRuns", unfollowed := true, recurses := true, apart := false, narrowed := true }
def LedgerRunsUptoSaid : Prop := ledgerRunsUptoRow.holds Tryz.pinned (OpenSpec.upto ledgerRunsSpec)

end Rows
end Go.Proofs.YtfgpophbgjeefaaGreat
