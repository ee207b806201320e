/-
  DERIVED. GIVEN WITH THE SEED: THE CARDS: each row of YtloepppmjppddaaGreatDoorRows.lean that lists a variable, with what it lists TIED to the program's text (the seventh form; the later family's looks); each row that meets fmt, with fmt's text TOLD by the authors' own Lean function (tested against real Go, not proved from fmt's source: count such statements apart). THE CARD IS WHAT COUNTS. Prove the row's statement (the work); the ties are given (YtloepppmjppddaaGreatDoorTie.lean); close each card by the builder's one call (the guide's Derived/Test/ToyasCard.lean, 'card_holds'). Laid BY PROGRAM, IN A SANDBOX (cutbox-door.mjs). By AI agents, Wed Nov 11 2026. No macro, syntax, notation, axiom, sorry.
-/
import Derived.Test.YtloepppmjppddaaGreatDoorRows
import GoSem.ClaimSeven
namespace Go.Proofs.YtloepppmjppddaaGreatDoor
namespace Rows

/-- THE TIED CARD OF 'laws.FnExactValidHouse'. -/
def fnExactValidHouseCard : Claim7 := { stood := { row := fnExactValidHouseRow, standIns := [], harness := (true, "6c4fefd7fc3100a95a0376b996669e934eea68acffca1a95330504668fad5848"), looks := true }, kinds := [], alts := [], laidByText := true, laidKinds := [.data, .data, .data, .data, .sentinel, .sentinel, .pinned], laidTests := true, laidLooks := .later }
def FnExactValidHouseCardSaid : Prop := Claim7.holds Tryz.pinned (.plain (OpenSpec.ofChange fnExactValidHouseSpec)) fnExactValidHouseCard

/-- THE TIED CARD OF 'laws.FnExactHourOf'. -/
def fnExactHourOfCard : Claim7 := { stood := { row := fnExactHourOfRow, standIns := [], harness := (true, "6c4fefd7fc3100a95a0376b996669e934eea68acffca1a95330504668fad5848"), looks := true }, kinds := [], alts := [], laidByText := true, laidKinds := [.data, .data, .data, .data, .sentinel, .sentinel, .pinned], laidTests := true, laidLooks := .later }
def FnExactHourOfCardSaid : Prop := Claim7.holds Tryz.pinned (.plain (OpenSpec.ofChange fnExactHourOfSpec)) fnExactHourOfCard

/-- THE TIED CARD OF 'laws.FnExactFuelInHouse'. -/
def fnExactFuelInHouseCard : Claim7 := { stood := { row := fnExactFuelInHouseRow, standIns := [], harness := (true, "6c4fefd7fc3100a95a0376b996669e934eea68acffca1a95330504668fad5848"), looks := true }, kinds := [], alts := [], laidByText := true, laidKinds := [.data, .data, .data, .data, .sentinel, .sentinel, .pinned], laidTests := true, laidLooks := .later }
def FnExactFuelInHouseCardSaid : Prop := Claim7.holds Tryz.pinned (.plain (OpenSpec.ofChange fnExactFuelInHouseSpec)) fnExactFuelInHouseCard

/-- THE SECOND FORM's CARD OF 'laws.FnExactValidHouse'. -/
def fnExactValidHouseUptoCard : Claim7 := { stood := { row := fnExactValidHouseUptoRow, standIns := [], harness := (true, "6c4fefd7fc3100a95a0376b996669e934eea68acffca1a95330504668fad5848"), looks := true }, kinds := [], alts := [], laidByText := true, laidKinds := [.data, .data, .data, .data, .sentinel, .sentinel, .pinned], laidTests := true, laidLooks := .later }
def FnExactValidHouseUptoCardSaid : Prop := Claim7.holds Tryz.pinned (.plain (OpenSpec.upto fnExactValidHouseSpec)) fnExactValidHouseUptoCard

/-- THE SECOND FORM's CARD OF 'laws.FnExactHourOf'. -/
def fnExactHourOfUptoCard : Claim7 := { stood := { row := fnExactHourOfUptoRow, standIns := [], harness := (true, "6c4fefd7fc3100a95a0376b996669e934eea68acffca1a95330504668fad5848"), looks := true }, kinds := [], alts := [], laidByText := true, laidKinds := [.data, .data, .data, .data, .sentinel, .sentinel, .pinned], laidTests := true, laidLooks := .later }
def FnExactHourOfUptoCardSaid : Prop := Claim7.holds Tryz.pinned (.plain (OpenSpec.upto fnExactHourOfSpec)) fnExactHourOfUptoCard

/-- THE SECOND FORM's CARD OF 'laws.FnExactFuelInHouse'. -/
def fnExactFuelInHouseUptoCard : Claim7 := { stood := { row := fnExactFuelInHouseUptoRow, standIns := [], harness := (true, "6c4fefd7fc3100a95a0376b996669e934eea68acffca1a95330504668fad5848"), looks := true }, kinds := [], alts := [], laidByText := true, laidKinds := [.data, .data, .data, .data, .sentinel, .sentinel, .pinned], laidTests := true, laidLooks := .later }
def FnExactFuelInHouseUptoCardSaid : Prop := Claim7.holds Tryz.pinned (.plain (OpenSpec.upto fnExactFuelInHouseSpec)) fnExactFuelInHouseUptoCard
end Rows
end Go.Proofs.YtloepppmjppddaaGreatDoor
