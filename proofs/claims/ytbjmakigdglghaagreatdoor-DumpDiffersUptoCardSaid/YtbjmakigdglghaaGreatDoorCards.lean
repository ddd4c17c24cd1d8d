/-
  DERIVED. GIVEN WITH THE SEED: THE CARDS: each row of YtbjmakigdglghaaGreatDoorRows.lean that lists a variable, with what it lists TIED to the program's text (the seventh form; the later family's looks); each row that meets fmt, with fmt's text TOLD by the authors' own Lean function (tested against real Go, not proved from fmt's source: count such statements apart). THE CARD IS WHAT COUNTS. Prove the row's statement (the work); the ties are given (YtbjmakigdglghaaGreatDoorTie.lean); close each card by the builder's one call (the guide's Derived/Test/ToyasCard.lean, 'card_holds'). Laid BY PROGRAM, IN A SANDBOX (cutbox-door.mjs). By AI agents, Wed Nov 11 2026. No macro, syntax, notation, axiom, sorry.
-/
import Derived.Test.YtbjmakigdglghaaGreatDoorRows
import GoSem.ClaimSeven
namespace Go.Proofs.YtbjmakigdglghaaGreatDoor
namespace Rows

/-- THE TIED CARD OF 'docketlaw27.DumpReads'. -/
def dumpReadsCard : Claim7 := { stood := { row := dumpReadsRow, standIns := [], harness := (true, "4f8196a303fa2486bf2341a7947cd5f4b259e9541c6f19238b4e7a369fdc0a1a"), looks := true }, kinds := [], alts := [], laidByText := true, laidKinds := [.data, .data, .data, .data, .sentinel, .sentinel, .pinned], laidTests := true, laidLooks := .later }
def DumpReadsCardSaid : Prop := Claim7.holds Tryz.pinned (.plain (OpenSpec.ofChange dumpReadsSpec)) dumpReadsCard

/-- THE TIED CARD OF 'docketlaw27.DumpDiffers'. -/
def dumpDiffersCard : Claim7 := { stood := { row := dumpDiffersRow, standIns := [], harness := (true, "4f8196a303fa2486bf2341a7947cd5f4b259e9541c6f19238b4e7a369fdc0a1a"), looks := true }, kinds := [], alts := [], laidByText := true, laidKinds := [.data, .data, .data, .data, .sentinel, .sentinel, .pinned], laidTests := true, laidLooks := .later }
def DumpDiffersCardSaid : Prop := Claim7.holds Tryz.pinned (.plain (OpenSpec.ofChange dumpDiffersSpec)) dumpDiffersCard

/-- THE TIED CARD OF 'docketlaw27.DumpBack'. -/
def dumpBackCard : Claim7 := { stood := { row := dumpBackRow, standIns := [], harness := (true, "4f8196a303fa2486bf2341a7947cd5f4b259e9541c6f19238b4e7a369fdc0a1a"), looks := true }, kinds := [], alts := [], laidByText := true, laidKinds := [.data, .data, .data, .data, .sentinel, .sentinel, .pinned], laidTests := true, laidLooks := .later }
def DumpBackCardSaid : Prop := Claim7.holds Tryz.pinned (.plain (OpenSpec.ofChange dumpBackSpec)) dumpBackCard

/-- THE SECOND FORM's CARD OF 'docketlaw27.DumpReads'. -/
def dumpReadsUptoCard : Claim7 := { stood := { row := dumpReadsUptoRow, standIns := [], harness := (true, "4f8196a303fa2486bf2341a7947cd5f4b259e9541c6f19238b4e7a369fdc0a1a"), looks := true }, kinds := [], alts := [], laidByText := true, laidKinds := [.data, .data, .data, .data, .sentinel, .sentinel, .pinned], laidTests := true, laidLooks := .later }
def DumpReadsUptoCardSaid : Prop := Claim7.holds Tryz.pinned (.plain (OpenSpec.upto dumpReadsSpec)) dumpReadsUptoCard

/-- THE SECOND FORM's CARD OF 'docketlaw27.DumpDiffers'. -/
def dumpDiffersUptoCard : Claim7 := { stood := { row := dumpDiffersUptoRow, standIns := [], harness := (true, "4f8196a303fa2486bf2341a7947cd5f4b259e9541c6f19238b4e7a369fdc0a1a"), looks := true }, kinds := [], alts := [], laidByText := true, laidKinds := [.data, .data, .data, .data, .sentinel, .sentinel, .pinned], laidTests := true, laidLooks := .later }
def DumpDiffersUptoCardSaid : Prop := Claim7.holds Tryz.pinned (.plain (OpenSpec.upto dumpDiffersSpec)) dumpDiffersUptoCard

/-- THE SECOND FORM's CARD OF 'docketlaw27.DumpBack'. -/
def dumpBackUptoCard : Claim7 := { stood := { row := dumpBackUptoRow, standIns := [], harness := (true, "4f8196a303fa2486bf2341a7947cd5f4b259e9541c6f19238b4e7a369fdc0a1a"), looks := true }, kinds := [], alts := [], laidByText := true, laidKinds := [.data, .data, .data, .data, .sentinel, .sentinel, .pinned], laidTests := true, laidLooks := .later }
def DumpBackUptoCardSaid : Prop := Claim7.holds Tryz.pinned (.plain (OpenSpec.upto dumpBackSpec)) dumpBackUptoCard
end Rows
end Go.Proofs.YtbjmakigdglghaaGreatDoor
