/-
  DERIVED. GIVEN WITH THE SEED: THE CARDS: each row of YtjeafniglnnkhaaGreatDoorRows.lean that lists a variable, with what it lists TIED to the program's text (the seventh form; the later family's looks); each row that meets fmt, with fmt's text TOLD by the authors' own Lean function (tested against real Go, not proved from fmt's source: count such statements apart). THE CARD IS WHAT COUNTS. Prove the row's statement (the work); the ties are given (YtjeafniglnnkhaaGreatDoorTie.lean); close each card by the builder's one call (the guide's Derived/Test/ToyasCard.lean, 'card_holds'). Laid BY PROGRAM, IN A SANDBOX (cutbox-door.mjs). By AI agents, Wed Nov 11 2026. No macro, syntax, notation, axiom, sorry.
-/
import Derived.Test.YtjeafniglnnkhaaGreatDoorRows
import GoSem.ClaimSeven
namespace Go.Proofs.YtjeafniglnnkhaaGreatDoor
namespace Rows

/-- THE TIED CARD OF 'crierlaw21.AuditTurns'. -/
def auditTurnsCard : Claim7 := { stood := { row := auditTurnsRow, standIns := [], harness := (true, "b389d74b9451a1c610af3d753026215cad9809090db42a7201b591a9b6eea652"), looks := true }, kinds := [], alts := [], laidByText := true, laidKinds := [.data, .data, .data, .sentinel, .sentinel, .data], laidTests := true, laidLooks := .later }
def AuditTurnsCardSaid : Prop := Claim7.holds Tryz.pinned (.plain (OpenSpec.ofChange auditTurnsSpec)) auditTurnsCard

/-- THE SECOND FORM's CARD OF 'crierlaw21.AuditTurns'. -/
def auditTurnsUptoCard : Claim7 := { stood := { row := auditTurnsUptoRow, standIns := [], harness := (true, "b389d74b9451a1c610af3d753026215cad9809090db42a7201b591a9b6eea652"), looks := true }, kinds := [], alts := [], laidByText := true, laidKinds := [.data, .data, .data, .sentinel, .sentinel, .data], laidTests := true, laidLooks := .later }
def AuditTurnsUptoCardSaid : Prop := Claim7.holds Tryz.pinned (.plain (OpenSpec.upto auditTurnsSpec)) auditTurnsUptoCard
end Rows
end Go.Proofs.YtjeafniglnnkhaaGreatDoor
