/-
  DERIVED. GIVEN WITH THE SEED: THE CARDS: each row of YtcgnbpjbpbabaaaGreatDoorRows.lean that lists a variable, with what it lists TIED to the program's text (the seventh form; the later family's looks); each row that meets fmt, with fmt's text TOLD by the authors' own Lean function (tested against real Go, not proved from fmt's source: count such statements apart). THE CARD IS WHAT COUNTS. Prove the row's statement (the work); the ties are given (YtcgnbpjbpbabaaaGreatDoorTie.lean); close each card by the builder's one call (the guide's Derived/Test/ToyasCard.lean, 'card_holds'). Laid BY PROGRAM, IN A SANDBOX (cutbox-door.mjs). By AI agents, Wed Nov 11 2026. No macro, syntax, notation, axiom, sorry.
-/
import Derived.Test.YtcgnbpjbpbabaaaGreatDoorRows
import GoSem.ClaimSeven
namespace Go.Proofs.YtcgnbpjbpbabaaaGreatDoor
namespace Rows

/-- THE TIED CARD OF 'cartouchelaw23.PrintsLines'. -/
def printsLinesCard : Claim7 := { stood := { row := printsLinesRow, standIns := [], harness := (true, "4a6916f779d14f58673d07072c855cd3754ef5d90d414db67345983b4dbb2b3e"), looks := false }, kinds := [], alts := [], laidByText := true, laidKinds := [.data, .data, .data, .data, .pinned], laidTests := true, laidLooks := .later }
def PrintsLinesCardSaid : Prop := Claim7.holds Tryz.pinned (.plain (OpenSpec.ofChange printsLinesSpec)) printsLinesCard

/-- THE SECOND FORM's CARD OF 'cartouchelaw23.PrintsLines'. -/
def printsLinesUptoCard : Claim7 := { stood := { row := printsLinesUptoRow, standIns := [], harness := (true, "4a6916f779d14f58673d07072c855cd3754ef5d90d414db67345983b4dbb2b3e"), looks := false }, kinds := [], alts := [], laidByText := true, laidKinds := [.data, .data, .data, .data, .pinned], laidTests := true, laidLooks := .later }
def PrintsLinesUptoCardSaid : Prop := Claim7.holds Tryz.pinned (.plain (OpenSpec.upto printsLinesSpec)) printsLinesUptoCard
end Rows
end Go.Proofs.YtcgnbpjbpbabaaaGreatDoor
