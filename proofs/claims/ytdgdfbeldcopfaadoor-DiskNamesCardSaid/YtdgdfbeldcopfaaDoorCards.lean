/-
  DERIVED. GIVEN WITH THE SEED: THE CARDS: each row of YtdgdfbeldcopfaaDoorRows.lean that lists a variable, with what it lists TIED to the program's text (the seventh form; the later family's looks); each row that meets fmt, with fmt's text TOLD by the authors' own Lean function (tested against real Go, not proved from fmt's source: count such statements apart). THE CARD IS WHAT COUNTS. Prove the row's statement (the work); the ties are given (YtdgdfbeldcopfaaDoorTie.lean); close each card by the builder's one call (the guide's Derived/Test/ToyasCard.lean, 'card_holds'). Laid BY PROGRAM, IN A SANDBOX (cutbox-door.mjs). By AI agents, Wed Nov 11 2026. No macro, syntax, notation, axiom, sorry.
-/
import Derived.Test.YtdgdfbeldcopfaaDoorRows
import GoSem.ClaimSeven
namespace Go.Proofs.YtdgdfbeldcopfaaDoor
namespace Rows

/-- THE TIED CARD OF 'conveyorlaw.DiskNames'. -/
def diskNamesCard : Claim7 := { stood := { row := diskNamesRow, standIns := [], harness := (true, "b870c9170d3bdc9c3b121b1ffc224803a8b49740fe7e2ffc9ee4c93cfa020cf4"), looks := false }, kinds := [], alts := [], laidByText := true, laidKinds := [.data, .pinned], laidTests := true, laidLooks := .later }
def DiskNamesCardSaid : Prop := Claim7.holds Tryd.pinned (.plain (OpenSpec.ofChange diskNamesSpec)) diskNamesCard

/-- THE TIED CARD OF 'conveyorlaw.TopicsNames'. -/
def topicsNamesCard : Claim7 := { stood := { row := topicsNamesRow, standIns := [], harness := (true, "b870c9170d3bdc9c3b121b1ffc224803a8b49740fe7e2ffc9ee4c93cfa020cf4"), looks := false }, kinds := [], alts := [], laidByText := true, laidKinds := [.data, .pinned], laidTests := true, laidLooks := .later }
def TopicsNamesCardSaid : Prop := Claim7.holds Tryd.pinned (.plain (OpenSpec.ofChange topicsNamesSpec)) topicsNamesCard

/-- THE SECOND FORM's CARD OF 'conveyorlaw.DiskNames'. -/
def diskNamesUptoCard : Claim7 := { stood := { row := diskNamesUptoRow, standIns := [], harness := (true, "b870c9170d3bdc9c3b121b1ffc224803a8b49740fe7e2ffc9ee4c93cfa020cf4"), looks := false }, kinds := [], alts := [], laidByText := true, laidKinds := [.data, .pinned], laidTests := true, laidLooks := .later }
def DiskNamesUptoCardSaid : Prop := Claim7.holds Tryd.pinned (.plain (OpenSpec.upto diskNamesSpec)) diskNamesUptoCard

/-- THE SECOND FORM's CARD OF 'conveyorlaw.TopicsNames'. -/
def topicsNamesUptoCard : Claim7 := { stood := { row := topicsNamesUptoRow, standIns := [], harness := (true, "b870c9170d3bdc9c3b121b1ffc224803a8b49740fe7e2ffc9ee4c93cfa020cf4"), looks := false }, kinds := [], alts := [], laidByText := true, laidKinds := [.data, .pinned], laidTests := true, laidLooks := .later }
def TopicsNamesUptoCardSaid : Prop := Claim7.holds Tryd.pinned (.plain (OpenSpec.upto topicsNamesSpec)) topicsNamesUptoCard
end Rows
end Go.Proofs.YtdgdfbeldcopfaaDoor
