/-
  DERIVED. GIVEN WITH THE SEED: THE CARDS: each row of YtmaomebnigcgeaaGreatDoorRows.lean that lists a variable, with what it lists TIED to the program's text (the seventh form; the later family's looks); each row that meets fmt, with fmt's text TOLD by the authors' own Lean function (tested against real Go, not proved from fmt's source: count such statements apart). THE CARD IS WHAT COUNTS. Prove the row's statement (the work); the ties are given (YtmaomebnigcgeaaGreatDoorTie.lean); close each card by the builder's one call (the guide's Derived/Test/ToyasCard.lean, 'card_holds'). Laid BY PROGRAM, IN A SANDBOX (cutbox-door.mjs). By AI agents, Wed Nov 11 2026. No macro, syntax, notation, axiom, sorry.
-/
import Derived.Test.YtmaomebnigcgeaaGreatDoorRows
import GoSem.ClaimSeven
namespace Go.Proofs.YtmaomebnigcgeaaGreatDoor
namespace Rows

/-- THE TIED CARD OF 'conveyorlaw.SegmentPlays'. -/
def segmentPlaysCard : Claim7 := { stood := { row := segmentPlaysRow, standIns := [], harness := (true, "adb203ab275b847d278473a019c24f892d3781a8ccaec506b988106d8c0c9bef"), looks := true }, kinds := [], alts := [], laidByText := true, laidKinds := [.data, .data, .data, .data, .handle, .pinned], laidTests := true, laidLooks := .later }
def SegmentPlaysCardSaid : Prop := Claim7.holds Tryz.pinned (.plain (OpenSpec.ofChange segmentPlaysSpec)) segmentPlaysCard

/-- THE TIED CARD OF 'conveyorkeep.SegmentTears'. -/
def segmentTearsCard : Claim7 := { stood := { row := segmentTearsRow, standIns := [], harness := (true, "adb203ab275b847d278473a019c24f892d3781a8ccaec506b988106d8c0c9bef"), looks := true }, kinds := [], alts := [], laidByText := true, laidKinds := [.data, .data, .data, .data, .sentinel, .sentinel, .pinned], laidTests := true, laidLooks := .later }
def SegmentTearsCardSaid : Prop := Claim7.holds Tryz.pinned (.plain (OpenSpec.ofChange segmentTearsSpec)) segmentTearsCard

/-- THE SECOND FORM's CARD OF 'conveyorlaw.SegmentPlays'. -/
def segmentPlaysUptoCard : Claim7 := { stood := { row := segmentPlaysUptoRow, standIns := [], harness := (true, "adb203ab275b847d278473a019c24f892d3781a8ccaec506b988106d8c0c9bef"), looks := true }, kinds := [], alts := [], laidByText := true, laidKinds := [.data, .data, .data, .data, .handle, .pinned], laidTests := true, laidLooks := .later }
def SegmentPlaysUptoCardSaid : Prop := Claim7.holds Tryz.pinned (.plain (OpenSpec.upto segmentPlaysSpec)) segmentPlaysUptoCard

/-- THE SECOND FORM's CARD OF 'conveyorkeep.SegmentTears'. -/
def segmentTearsUptoCard : Claim7 := { stood := { row := segmentTearsUptoRow, standIns := [], harness := (true, "adb203ab275b847d278473a019c24f892d3781a8ccaec506b988106d8c0c9bef"), looks := true }, kinds := [], alts := [], laidByText := true, laidKinds := [.data, .data, .data, .data, .sentinel, .sentinel, .pinned], laidTests := true, laidLooks := .later }
def SegmentTearsUptoCardSaid : Prop := Claim7.holds Tryz.pinned (.plain (OpenSpec.upto segmentTearsSpec)) segmentTearsUptoCard
end Rows
end Go.Proofs.YtmaomebnigcgeaaGreatDoor
