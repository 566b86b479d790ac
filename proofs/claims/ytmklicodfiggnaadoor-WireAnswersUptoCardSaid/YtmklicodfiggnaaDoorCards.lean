/-
  DERIVED. GIVEN WITH THE SEED: THE CARDS: each row of YtmklicodfiggnaaDoorRows.lean that lists a variable, with what it lists TIED to the program's text (the seventh form; the later family's looks); each row that meets fmt, with fmt's text TOLD by the authors' own Lean function (tested against real Go, not proved from fmt's source: count such statements apart). THE CARD IS WHAT COUNTS. Prove the row's statement (the work); the ties are given (YtmklicodfiggnaaDoorTie.lean); close each card by the builder's one call (the guide's Derived/Test/ToyasCard.lean, 'card_holds'). Laid BY PROGRAM, IN A SANDBOX (cutbox-door.mjs). By AI agents, Wed Nov 11 2026. No macro, syntax, notation, axiom, sorry.
-/
import Derived.Test.YtmklicodfiggnaaDoorRows
import GoSem.ClaimSeven
namespace Go.Proofs.YtmklicodfiggnaaDoor
namespace Rows

/-- THE TIED CARD OF 'conveyorlaw.WireAsks'. -/
def wireAsksCard : Claim7 := { stood := { row := wireAsksRow, standIns := [], harness := (true, "9a98a397e9c5877d0c72616a2d2b7c0317734cb50b0212288cf5640a73fdfdac"), looks := true }, kinds := [], alts := [], laidByText := true, laidKinds := [.handle], laidTests := true, laidLooks := .later }
def WireAsksCardSaid : Prop := Claim7.holds Tryd.pinned (.plain (OpenSpec.ofChange wireAsksSpec)) wireAsksCard

/-- THE TIED CARD OF 'conveyorlaw.WireTells'. -/
def wireTellsCard : Claim7 := { stood := { row := wireTellsRow, standIns := [], harness := (true, "9a98a397e9c5877d0c72616a2d2b7c0317734cb50b0212288cf5640a73fdfdac"), looks := true }, kinds := [], alts := [], laidByText := true, laidKinds := [.handle], laidTests := true, laidLooks := .later }
def WireTellsCardSaid : Prop := Claim7.holds Tryd.pinned (.plain (OpenSpec.ofChange wireTellsSpec)) wireTellsCard

/-- THE TIED CARD OF 'conveyorlaw.WireAskeds'. -/
def wireAskedsCard : Claim7 := { stood := { row := wireAskedsRow, standIns := [], harness := (true, "9a98a397e9c5877d0c72616a2d2b7c0317734cb50b0212288cf5640a73fdfdac"), looks := true }, kinds := [], alts := [], laidByText := true, laidKinds := [.handle], laidTests := true, laidLooks := .later }
def WireAskedsCardSaid : Prop := Claim7.holds Tryd.pinned (.plain (OpenSpec.ofChange wireAskedsSpec)) wireAskedsCard

/-- THE TIED CARD OF 'conveyorlaw.WireTolds'. -/
def wireToldsCard : Claim7 := { stood := { row := wireToldsRow, standIns := [], harness := (true, "9a98a397e9c5877d0c72616a2d2b7c0317734cb50b0212288cf5640a73fdfdac"), looks := true }, kinds := [], alts := [], laidByText := true, laidKinds := [.handle], laidTests := true, laidLooks := .later }
def WireToldsCardSaid : Prop := Claim7.holds Tryd.pinned (.plain (OpenSpec.ofChange wireToldsSpec)) wireToldsCard

/-- THE TIED CARD OF 'conveyorkeep.WireBack'. -/
def wireBackCard : Claim7 := { stood := { row := wireBackRow, standIns := [], harness := (true, "9a98a397e9c5877d0c72616a2d2b7c0317734cb50b0212288cf5640a73fdfdac"), looks := true }, kinds := [], alts := [], laidByText := true, laidKinds := [.handle], laidTests := true, laidLooks := .later }
def WireBackCardSaid : Prop := Claim7.holds Tryd.pinned (.plain (OpenSpec.ofChange wireBackSpec)) wireBackCard

/-- THE TIED CARD OF 'conveyorkeep.WireAnswers'. -/
def wireAnswersCard : Claim7 := { stood := { row := wireAnswersRow, standIns := [], harness := (true, "9a98a397e9c5877d0c72616a2d2b7c0317734cb50b0212288cf5640a73fdfdac"), looks := true }, kinds := [], alts := [], laidByText := true, laidKinds := [.handle], laidTests := true, laidLooks := .later }
def WireAnswersCardSaid : Prop := Claim7.holds Tryd.pinned (.plain (OpenSpec.ofChange wireAnswersSpec)) wireAnswersCard

/-- THE SECOND FORM's CARD OF 'conveyorlaw.WireAsks'. -/
def wireAsksUptoCard : Claim7 := { stood := { row := wireAsksUptoRow, standIns := [], harness := (true, "9a98a397e9c5877d0c72616a2d2b7c0317734cb50b0212288cf5640a73fdfdac"), looks := true }, kinds := [], alts := [], laidByText := true, laidKinds := [.handle], laidTests := true, laidLooks := .later }
def WireAsksUptoCardSaid : Prop := Claim7.holds Tryd.pinned (.plain (OpenSpec.upto wireAsksSpec)) wireAsksUptoCard

/-- THE SECOND FORM's CARD OF 'conveyorlaw.WireTells'. -/
def wireTellsUptoCard : Claim7 := { stood := { row := wireTellsUptoRow, standIns := [], harness := (true, "9a98a397e9c5877d0c72616a2d2b7c0317734cb50b0212288cf5640a73fdfdac"), looks := true }, kinds := [], alts := [], laidByText := true, laidKinds := [.handle], laidTests := true, laidLooks := .later }
def WireTellsUptoCardSaid : Prop := Claim7.holds Tryd.pinned (.plain (OpenSpec.upto wireTellsSpec)) wireTellsUptoCard

/-- THE SECOND FORM's CARD OF 'conveyorlaw.WireAskeds'. -/
def wireAskedsUptoCard : Claim7 := { stood := { row := wireAskedsUptoRow, standIns := [], harness := (true, "9a98a397e9c5877d0c72616a2d2b7c0317734cb50b0212288cf5640a73fdfdac"), looks := true }, kinds := [], alts := [], laidByText := true, laidKinds := [.handle], laidTests := true, laidLooks := .later }
def WireAskedsUptoCardSaid : Prop := Claim7.holds Tryd.pinned (.plain (OpenSpec.upto wireAskedsSpec)) wireAskedsUptoCard

/-- THE SECOND FORM's CARD OF 'conveyorlaw.WireTolds'. -/
def wireToldsUptoCard : Claim7 := { stood := { row := wireToldsUptoRow, standIns := [], harness := (true, "9a98a397e9c5877d0c72616a2d2b7c0317734cb50b0212288cf5640a73fdfdac"), looks := true }, kinds := [], alts := [], laidByText := true, laidKinds := [.handle], laidTests := true, laidLooks := .later }
def WireToldsUptoCardSaid : Prop := Claim7.holds Tryd.pinned (.plain (OpenSpec.upto wireToldsSpec)) wireToldsUptoCard

/-- THE SECOND FORM's CARD OF 'conveyorkeep.WireBack'. -/
def wireBackUptoCard : Claim7 := { stood := { row := wireBackUptoRow, standIns := [], harness := (true, "9a98a397e9c5877d0c72616a2d2b7c0317734cb50b0212288cf5640a73fdfdac"), looks := true }, kinds := [], alts := [], laidByText := true, laidKinds := [.handle], laidTests := true, laidLooks := .later }
def WireBackUptoCardSaid : Prop := Claim7.holds Tryd.pinned (.plain (OpenSpec.upto wireBackSpec)) wireBackUptoCard

/-- THE SECOND FORM's CARD OF 'conveyorkeep.WireAnswers'. -/
def wireAnswersUptoCard : Claim7 := { stood := { row := wireAnswersUptoRow, standIns := [], harness := (true, "9a98a397e9c5877d0c72616a2d2b7c0317734cb50b0212288cf5640a73fdfdac"), looks := true }, kinds := [], alts := [], laidByText := true, laidKinds := [.handle], laidTests := true, laidLooks := .later }
def WireAnswersUptoCardSaid : Prop := Claim7.holds Tryd.pinned (.plain (OpenSpec.upto wireAnswersSpec)) wireAnswersUptoCard
end Rows
end Go.Proofs.YtmklicodfiggnaaDoor
