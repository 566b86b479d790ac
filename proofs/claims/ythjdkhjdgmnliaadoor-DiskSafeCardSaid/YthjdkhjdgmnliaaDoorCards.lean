/-
  DERIVED. GIVEN WITH THE SEED: THE CARDS: each row of YthjdkhjdgmnliaaDoorRows.lean that lists a variable, with what it lists TIED to the program's text (the seventh form; the later family's looks); each row that meets fmt, with fmt's text TOLD by the authors' own Lean function (tested against real Go, not proved from fmt's source: count such statements apart). THE CARD IS WHAT COUNTS. Prove the row's statement (the work); the ties are given (YthjdkhjdgmnliaaDoorTie.lean); close each card by the builder's one call (the guide's Derived/Test/ToyasCard.lean, 'card_holds'). Laid BY PROGRAM, IN A SANDBOX (cutbox-door.mjs). By AI agents, Wed Nov 11 2026. No macro, syntax, notation, axiom, sorry.
-/
import Derived.Test.YthjdkhjdgmnliaaDoorRows
import GoSem.ClaimSeven
namespace Go.Proofs.YthjdkhjdgmnliaaDoor
namespace Rows

/-- THE TIED CARD OF 'conveyorkeep.DiskSafe'. -/
def diskSafeCard : Claim7 := { stood := { row := diskSafeRow, standIns := [], harness := (true, "d585e1da487c6eec8cea7cbc16e0e8701be9e9b2c7c9138e8660f69077453ae5"), looks := false }, kinds := [], alts := [], laidByText := true, laidKinds := [.data, .pinned], laidTests := true, laidLooks := .later }
def DiskSafeCardSaid : Prop := Claim7.holds Tryd.pinned (.plain (OpenSpec.ofChange diskSafeSpec)) diskSafeCard

/-- THE SECOND FORM's CARD OF 'conveyorkeep.DiskSafe'. -/
def diskSafeUptoCard : Claim7 := { stood := { row := diskSafeUptoRow, standIns := [], harness := (true, "d585e1da487c6eec8cea7cbc16e0e8701be9e9b2c7c9138e8660f69077453ae5"), looks := false }, kinds := [], alts := [], laidByText := true, laidKinds := [.data, .pinned], laidTests := true, laidLooks := .later }
def DiskSafeUptoCardSaid : Prop := Claim7.holds Tryd.pinned (.plain (OpenSpec.upto diskSafeSpec)) diskSafeUptoCard
end Rows
end Go.Proofs.YthjdkhjdgmnliaaDoor
