/-
  DERIVED. GIVEN WITH THE SEED: THE CARDS: each row of YtbohajclnmmkhaaGreatDoorRows.lean that lists a variable, with what it lists TIED to the program's text (the seventh form; the later family's looks); each row that meets fmt, with fmt's text TOLD by the authors' own Lean function (tested against real Go, not proved from fmt's source: count such statements apart). THE CARD IS WHAT COUNTS. Prove the row's statement (the work); the ties are given (YtbohajclnmmkhaaGreatDoorTie.lean); close each card by the builder's one call (the guide's Derived/Test/ToyasCard.lean, 'card_holds'). Laid BY PROGRAM, IN A SANDBOX (cutbox-door.mjs). By AI agents, Wed Nov 11 2026. No macro, syntax, notation, axiom, sorry.
-/
import Derived.Test.YtbohajclnmmkhaaGreatDoorRows
import GoSem.ClaimSeven
namespace Go.Proofs.YtbohajclnmmkhaaGreatDoor
namespace Rows

/-- THE TIED CARD OF 'laws.FnExactReadFlat'. -/
def fnExactReadFlatCard : Claim7 := { stood := { row := fnExactReadFlatRow, standIns := [], harness := (true, "e205c0dbc221c437e31f910d09f3d50fa0ad436a5552e99674d40c901293e3bf"), looks := true }, kinds := [], alts := [], laidByText := true, laidKinds := [.data, .data, .data, .data, .sentinel, .sentinel, .pinned], laidTests := true, laidLooks := .later }
def FnExactReadFlatCardSaid : Prop := Claim7.holds Tryz.pinned (.plain (OpenSpec.ofChange fnExactReadFlatSpec)) fnExactReadFlatCard

/-- THE SECOND FORM's CARD OF 'laws.FnExactReadFlat'. -/
def fnExactReadFlatUptoCard : Claim7 := { stood := { row := fnExactReadFlatUptoRow, standIns := [], harness := (true, "e205c0dbc221c437e31f910d09f3d50fa0ad436a5552e99674d40c901293e3bf"), looks := true }, kinds := [], alts := [], laidByText := true, laidKinds := [.data, .data, .data, .data, .sentinel, .sentinel, .pinned], laidTests := true, laidLooks := .later }
def FnExactReadFlatUptoCardSaid : Prop := Claim7.holds Tryz.pinned (.plain (OpenSpec.upto fnExactReadFlatSpec)) fnExactReadFlatUptoCard
end Rows
end Go.Proofs.YtbohajclnmmkhaaGreatDoor
