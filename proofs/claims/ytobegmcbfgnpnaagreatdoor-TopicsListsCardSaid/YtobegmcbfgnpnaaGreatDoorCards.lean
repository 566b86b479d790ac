/-
  DERIVED. GIVEN WITH THE SEED: THE CARDS: each row of YtobegmcbfgnpnaaGreatDoorRows.lean that lists a variable, with what it lists TIED to the program's text (the seventh form; the later family's looks); each row that meets fmt, with fmt's text TOLD by the authors' own Lean function (tested against real Go, not proved from fmt's source: count such statements apart). THE CARD IS WHAT COUNTS. Prove the row's statement (the work); the ties are given (YtobegmcbfgnpnaaGreatDoorTie.lean); close each card by the builder's one call (the guide's Derived/Test/ToyasCard.lean, 'card_holds'). Laid BY PROGRAM, IN A SANDBOX (cutbox-door.mjs). By AI agents, Wed Nov 11 2026. No macro, syntax, notation, axiom, sorry.
-/
import Derived.Test.YtobegmcbfgnpnaaGreatDoorRows
import GoSem.ClaimSeven
namespace Go.Proofs.YtobegmcbfgnpnaaGreatDoor
namespace Rows

/-- THE TIED CARD OF 'conveyorlaw.TopicsLists'. -/
def topicsListsCard : Claim7 := { stood := { row := topicsListsRow, standIns := [], harness := (true, "78d31bf1c679d1262db4fb9d4c49610cb683642877f342fb8cc3c0a340806d92"), looks := true }, kinds := [], alts := [], laidByText := true, laidKinds := [.data, .data, .data, .data, .handle, .sentinel, .sentinel, .listed, .data, .pinned], laidTests := true, laidLooks := .later }
def TopicsListsCardSaid : Prop := Claim7.holds Tryz.pinned (.plain (OpenSpec.ofChange topicsListsSpec)) topicsListsCard

/-- THE TIED CARD OF 'conveyorkeep.TopicsCrash'. -/
def topicsCrashCard : Claim7 := { stood := { row := topicsCrashRow, standIns := [], harness := (true, "78d31bf1c679d1262db4fb9d4c49610cb683642877f342fb8cc3c0a340806d92"), looks := true }, kinds := [], alts := [], laidByText := true, laidKinds := [.data, .data, .data, .data, .handle, .sentinel, .sentinel, .pinned], laidTests := true, laidLooks := .later }
def TopicsCrashCardSaid : Prop := Claim7.holds Tryz.pinned (.plain (OpenSpec.ofChange topicsCrashSpec)) topicsCrashCard

/-- THE TIED CARD OF 'conveyorlaw.TopicsPlay'. -/
def topicsPlayCard : Claim7 := { stood := { row := topicsPlayRow, standIns := [], harness := (true, "78d31bf1c679d1262db4fb9d4c49610cb683642877f342fb8cc3c0a340806d92"), looks := true }, kinds := [], alts := [], laidByText := true, laidKinds := [.data, .data, .data, .data, .handle, .sentinel, .sentinel, .pinned], laidTests := true, laidLooks := .later }
def TopicsPlayCardSaid : Prop := Claim7.holds Tryz.pinned (.plain (OpenSpec.ofChange topicsPlaySpec)) topicsPlayCard

/-- THE SECOND FORM's CARD OF 'conveyorlaw.TopicsLists'. -/
def topicsListsUptoCard : Claim7 := { stood := { row := topicsListsUptoRow, standIns := [], harness := (true, "78d31bf1c679d1262db4fb9d4c49610cb683642877f342fb8cc3c0a340806d92"), looks := true }, kinds := [], alts := [], laidByText := true, laidKinds := [.data, .data, .data, .data, .handle, .sentinel, .sentinel, .listed, .data, .pinned], laidTests := true, laidLooks := .later }
def TopicsListsUptoCardSaid : Prop := Claim7.holds Tryz.pinned (.plain (OpenSpec.upto topicsListsSpec)) topicsListsUptoCard

/-- THE SECOND FORM's CARD OF 'conveyorkeep.TopicsCrash'. -/
def topicsCrashUptoCard : Claim7 := { stood := { row := topicsCrashUptoRow, standIns := [], harness := (true, "78d31bf1c679d1262db4fb9d4c49610cb683642877f342fb8cc3c0a340806d92"), looks := true }, kinds := [], alts := [], laidByText := true, laidKinds := [.data, .data, .data, .data, .handle, .sentinel, .sentinel, .pinned], laidTests := true, laidLooks := .later }
def TopicsCrashUptoCardSaid : Prop := Claim7.holds Tryz.pinned (.plain (OpenSpec.upto topicsCrashSpec)) topicsCrashUptoCard

/-- THE SECOND FORM's CARD OF 'conveyorlaw.TopicsPlay'. -/
def topicsPlayUptoCard : Claim7 := { stood := { row := topicsPlayUptoRow, standIns := [], harness := (true, "78d31bf1c679d1262db4fb9d4c49610cb683642877f342fb8cc3c0a340806d92"), looks := true }, kinds := [], alts := [], laidByText := true, laidKinds := [.data, .data, .data, .data, .handle, .sentinel, .sentinel, .pinned], laidTests := true, laidLooks := .later }
def TopicsPlayUptoCardSaid : Prop := Claim7.holds Tryz.pinned (.plain (OpenSpec.upto topicsPlaySpec)) topicsPlayUptoCard
end Rows
end Go.Proofs.YtobegmcbfgnpnaaGreatDoor
