/-
  DERIVED. GIVEN WITH THE SEED: THE CARDS: each row of YtdjmifaidgbbaaaGreatDoorRows.lean that lists a variable, with what it lists TIED to the program's text (the seventh form; the later family's looks); each row that meets fmt, with fmt's text TOLD by the authors' own Lean function (tested against real Go, not proved from fmt's source: count such statements apart). THE CARD IS WHAT COUNTS. Prove the row's statement (the work); the ties are given (YtdjmifaidgbbaaaGreatDoorTie.lean); close each card by the builder's one call (the guide's Derived/Test/ToyasCard.lean, 'card_holds'). Laid BY PROGRAM, IN A SANDBOX (cutbox-door.mjs). By AI agents, Wed Nov 11 2026. No macro, syntax, notation, axiom, sorry.
-/
import Derived.Test.YtdjmifaidgbbaaaGreatDoorRows
import GoSem.ClaimSeven
namespace Go.Proofs.YtdjmifaidgbbaaaGreatDoor
namespace Rows

/-- THE TIED CARD OF 'conveyorkeep.LogGrows'. -/
def logGrowsCard : Claim7 := { stood := { row := logGrowsRow, standIns := [], harness := (true, "30b23be82b3f9392f241d454a21f3d84fefd74d1b501af8fa9bfda6bae8e8ec6"), looks := true }, kinds := [], alts := [], laidByText := true, laidKinds := [.data, .data, .data, .data, .handle, .sentinel, .sentinel, .pinned], laidTests := true, laidLooks := .later }
def LogGrowsCardSaid : Prop := Claim7.holds Tryz.pinned (.plain (OpenSpec.ofChange logGrowsSpec)) logGrowsCard

/-- THE TIED CARD OF 'conveyorkeep.LogRetains'. -/
def logRetainsCard : Claim7 := { stood := { row := logRetainsRow, standIns := [], harness := (true, "30b23be82b3f9392f241d454a21f3d84fefd74d1b501af8fa9bfda6bae8e8ec6"), looks := true }, kinds := [], alts := [], laidByText := true, laidKinds := [.data, .data, .data, .data, .handle, .sentinel, .sentinel, .pinned], laidTests := true, laidLooks := .later }
def LogRetainsCardSaid : Prop := Claim7.holds Tryz.pinned (.plain (OpenSpec.ofChange logRetainsSpec)) logRetainsCard

/-- THE TIED CARD OF 'conveyorkeep.LogCompacts'. -/
def logCompactsCard : Claim7 := { stood := { row := logCompactsRow, standIns := [], harness := (true, "30b23be82b3f9392f241d454a21f3d84fefd74d1b501af8fa9bfda6bae8e8ec6"), looks := true }, kinds := [], alts := [], laidByText := true, laidKinds := [.data, .data, .data, .data, .handle, .sentinel, .sentinel, .pinned], laidTests := true, laidLooks := .later }
def LogCompactsCardSaid : Prop := Claim7.holds Tryz.pinned (.plain (OpenSpec.ofChange logCompactsSpec)) logCompactsCard

/-- THE TIED CARD OF 'conveyorkeep.LogCrashes'. -/
def logCrashesCard : Claim7 := { stood := { row := logCrashesRow, standIns := [], harness := (true, "30b23be82b3f9392f241d454a21f3d84fefd74d1b501af8fa9bfda6bae8e8ec6"), looks := true }, kinds := [], alts := [], laidByText := true, laidKinds := [.data, .data, .data, .data, .handle, .sentinel, .sentinel, .pinned], laidTests := true, laidLooks := .later }
def LogCrashesCardSaid : Prop := Claim7.holds Tryz.pinned (.plain (OpenSpec.ofChange logCrashesSpec)) logCrashesCard

/-- THE TIED CARD OF 'conveyorlaw.LogPlays'. -/
def logPlaysCard : Claim7 := { stood := { row := logPlaysRow, standIns := [], harness := (true, "30b23be82b3f9392f241d454a21f3d84fefd74d1b501af8fa9bfda6bae8e8ec6"), looks := true }, kinds := [], alts := [], laidByText := true, laidKinds := [.data, .data, .data, .data, .handle, .sentinel, .sentinel, .pinned], laidTests := true, laidLooks := .later }
def LogPlaysCardSaid : Prop := Claim7.holds Tryz.pinned (.plain (OpenSpec.ofChange logPlaysSpec)) logPlaysCard

/-- THE SECOND FORM's CARD OF 'conveyorkeep.LogGrows'. -/
def logGrowsUptoCard : Claim7 := { stood := { row := logGrowsUptoRow, standIns := [], harness := (true, "30b23be82b3f9392f241d454a21f3d84fefd74d1b501af8fa9bfda6bae8e8ec6"), looks := true }, kinds := [], alts := [], laidByText := true, laidKinds := [.data, .data, .data, .data, .handle, .sentinel, .sentinel, .pinned], laidTests := true, laidLooks := .later }
def LogGrowsUptoCardSaid : Prop := Claim7.holds Tryz.pinned (.plain (OpenSpec.upto logGrowsSpec)) logGrowsUptoCard

/-- THE SECOND FORM's CARD OF 'conveyorkeep.LogRetains'. -/
def logRetainsUptoCard : Claim7 := { stood := { row := logRetainsUptoRow, standIns := [], harness := (true, "30b23be82b3f9392f241d454a21f3d84fefd74d1b501af8fa9bfda6bae8e8ec6"), looks := true }, kinds := [], alts := [], laidByText := true, laidKinds := [.data, .data, .data, .data, .handle, .sentinel, .sentinel, .pinned], laidTests := true, laidLooks := .later }
def LogRetainsUptoCardSaid : Prop := Claim7.holds Tryz.pinned (.plain (OpenSpec.upto logRetainsSpec)) logRetainsUptoCard

/-- THE SECOND FORM's CARD OF 'conveyorkeep.LogCompacts'. -/
def logCompactsUptoCard : Claim7 := { stood := { row := logCompactsUptoRow, standIns := [], harness := (true, "30b23be82b3f9392f241d454a21f3d84fefd74d1b501af8fa9bfda6bae8e8ec6"), looks := true }, kinds := [], alts := [], laidByText := true, laidKinds := [.data, .data, .data, .data, .handle, .sentinel, .sentinel, .pinned], laidTests := true, laidLooks := .later }
def LogCompactsUptoCardSaid : Prop := Claim7.holds Tryz.pinned (.plain (OpenSpec.upto logCompactsSpec)) logCompactsUptoCard

/-- THE SECOND FORM's CARD OF 'conveyorkeep.LogCrashes'. -/
def logCrashesUptoCard : Claim7 := { stood := { row := logCrashesUptoRow, standIns := [], harness := (true, "30b23be82b3f9392f241d454a21f3d84fefd74d1b501af8fa9bfda6bae8e8ec6"), looks := true }, kinds := [], alts := [], laidByText := true, laidKinds := [.data, .data, .data, .data, .handle, .sentinel, .sentinel, .pinned], laidTests := true, laidLooks := .later }
def LogCrashesUptoCardSaid : Prop := Claim7.holds Tryz.pinned (.plain (OpenSpec.upto logCrashesSpec)) logCrashesUptoCard

/-- THE SECOND FORM's CARD OF 'conveyorlaw.LogPlays'. -/
def logPlaysUptoCard : Claim7 := { stood := { row := logPlaysUptoRow, standIns := [], harness := (true, "30b23be82b3f9392f241d454a21f3d84fefd74d1b501af8fa9bfda6bae8e8ec6"), looks := true }, kinds := [], alts := [], laidByText := true, laidKinds := [.data, .data, .data, .data, .handle, .sentinel, .sentinel, .pinned], laidTests := true, laidLooks := .later }
def LogPlaysUptoCardSaid : Prop := Claim7.holds Tryz.pinned (.plain (OpenSpec.upto logPlaysSpec)) logPlaysUptoCard
end Rows
end Go.Proofs.YtdjmifaidgbbaaaGreatDoor
