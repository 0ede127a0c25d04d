/-
  DERIVED. GIVEN WITH THE SEED: THE CARDS: each row of YtgidpknckbgmbaaGreatDoorRows.lean that lists a variable, with what it lists TIED to the program's text (the seventh form; the later family's looks); each row that meets fmt, with fmt's text TOLD by the authors' own Lean function (tested against real Go, not proved from fmt's source: count such statements apart). THE CARD IS WHAT COUNTS. Prove the row's statement (the work); the ties are given (YtgidpknckbgmbaaGreatDoorTie.lean); close each card by the builder's one call (the guide's Derived/Test/ToyasCard.lean, 'card_holds'). Laid BY PROGRAM, IN A SANDBOX (cutbox-door.mjs). By AI agents, Wed Nov 11 2026. No macro, syntax, notation, axiom, sorry.
-/
import Derived.Test.YtgidpknckbgmbaaGreatDoorRows
import GoSem.ClaimSeven
namespace Go.Proofs.YtgidpknckbgmbaaGreatDoor
namespace Rows

/-- THE TIED CARD OF 'glossarylaw07.NormalTwice'. -/
def normalTwiceCard : Claim7 := { stood := { row := normalTwiceRow, standIns := [], harness := (true, "947580626f167cfe0bf8d63999aeec520d77d792ca7f43cbf5851d2f282c14e2"), looks := true }, kinds := [], alts := [], laidByText := true, laidKinds := [.data, .data, .data, .data, .sentinel, .sentinel, .pinned], laidTests := true, laidLooks := .later }
def NormalTwiceCardSaid : Prop := Claim7.holds Tryz.pinned (.plain (OpenSpec.ofChange normalTwiceSpec)) normalTwiceCard

/-- THE TIED CARD OF 'glossarylaw07.NormalCuts'. -/
def normalCutsCard : Claim7 := { stood := { row := normalCutsRow, standIns := [], harness := (true, "947580626f167cfe0bf8d63999aeec520d77d792ca7f43cbf5851d2f282c14e2"), looks := true }, kinds := [], alts := [], laidByText := true, laidKinds := [.data, .data, .data, .data, .sentinel, .sentinel, .pinned], laidTests := true, laidLooks := .later }
def NormalCutsCardSaid : Prop := Claim7.holds Tryz.pinned (.plain (OpenSpec.ofChange normalCutsSpec)) normalCutsCard

/-- THE TIED CARD OF 'glossarylaw07.NormalPieces'. -/
def normalPiecesCard : Claim7 := { stood := { row := normalPiecesRow, standIns := [], harness := (true, "947580626f167cfe0bf8d63999aeec520d77d792ca7f43cbf5851d2f282c14e2"), looks := true }, kinds := [], alts := [], laidByText := true, laidKinds := [.data, .data, .data, .data, .sentinel, .sentinel, .pinned], laidTests := true, laidLooks := .later }
def NormalPiecesCardSaid : Prop := Claim7.holds Tryz.pinned (.plain (OpenSpec.ofChange normalPiecesSpec)) normalPiecesCard

/-- THE TIED CARD OF 'glossarylaw07.NormalBytes'. -/
def normalBytesCard : Claim7 := { stood := { row := normalBytesRow, standIns := [], harness := (true, "947580626f167cfe0bf8d63999aeec520d77d792ca7f43cbf5851d2f282c14e2"), looks := true }, kinds := [], alts := [], laidByText := true, laidKinds := [.data, .data, .data, .data, .sentinel, .sentinel, .pinned], laidTests := true, laidLooks := .later }
def NormalBytesCardSaid : Prop := Claim7.holds Tryz.pinned (.plain (OpenSpec.ofChange normalBytesSpec)) normalBytesCard

/-- THE TIED CARD OF 'glossarylaw07.NormalKnown'. -/
def normalKnownCard : Claim7 := { stood := { row := normalKnownRow, standIns := [], harness := (true, "947580626f167cfe0bf8d63999aeec520d77d792ca7f43cbf5851d2f282c14e2"), looks := true }, kinds := [], alts := [], laidByText := true, laidKinds := [.data, .data, .data, .data, .sentinel, .sentinel, .pinned], laidTests := true, laidLooks := .later }
def NormalKnownCardSaid : Prop := Claim7.holds Tryz.pinned (.plain (OpenSpec.ofChange normalKnownSpec)) normalKnownCard

/-- THE SECOND FORM's CARD OF 'glossarylaw07.NormalTwice'. -/
def normalTwiceUptoCard : Claim7 := { stood := { row := normalTwiceUptoRow, standIns := [], harness := (true, "947580626f167cfe0bf8d63999aeec520d77d792ca7f43cbf5851d2f282c14e2"), looks := true }, kinds := [], alts := [], laidByText := true, laidKinds := [.data, .data, .data, .data, .sentinel, .sentinel, .pinned], laidTests := true, laidLooks := .later }
def NormalTwiceUptoCardSaid : Prop := Claim7.holds Tryz.pinned (.plain (OpenSpec.upto normalTwiceSpec)) normalTwiceUptoCard

/-- THE SECOND FORM's CARD OF 'glossarylaw07.NormalCuts'. -/
def normalCutsUptoCard : Claim7 := { stood := { row := normalCutsUptoRow, standIns := [], harness := (true, "947580626f167cfe0bf8d63999aeec520d77d792ca7f43cbf5851d2f282c14e2"), looks := true }, kinds := [], alts := [], laidByText := true, laidKinds := [.data, .data, .data, .data, .sentinel, .sentinel, .pinned], laidTests := true, laidLooks := .later }
def NormalCutsUptoCardSaid : Prop := Claim7.holds Tryz.pinned (.plain (OpenSpec.upto normalCutsSpec)) normalCutsUptoCard

/-- THE SECOND FORM's CARD OF 'glossarylaw07.NormalPieces'. -/
def normalPiecesUptoCard : Claim7 := { stood := { row := normalPiecesUptoRow, standIns := [], harness := (true, "947580626f167cfe0bf8d63999aeec520d77d792ca7f43cbf5851d2f282c14e2"), looks := true }, kinds := [], alts := [], laidByText := true, laidKinds := [.data, .data, .data, .data, .sentinel, .sentinel, .pinned], laidTests := true, laidLooks := .later }
def NormalPiecesUptoCardSaid : Prop := Claim7.holds Tryz.pinned (.plain (OpenSpec.upto normalPiecesSpec)) normalPiecesUptoCard

/-- THE SECOND FORM's CARD OF 'glossarylaw07.NormalBytes'. -/
def normalBytesUptoCard : Claim7 := { stood := { row := normalBytesUptoRow, standIns := [], harness := (true, "947580626f167cfe0bf8d63999aeec520d77d792ca7f43cbf5851d2f282c14e2"), looks := true }, kinds := [], alts := [], laidByText := true, laidKinds := [.data, .data, .data, .data, .sentinel, .sentinel, .pinned], laidTests := true, laidLooks := .later }
def NormalBytesUptoCardSaid : Prop := Claim7.holds Tryz.pinned (.plain (OpenSpec.upto normalBytesSpec)) normalBytesUptoCard

/-- THE SECOND FORM's CARD OF 'glossarylaw07.NormalKnown'. -/
def normalKnownUptoCard : Claim7 := { stood := { row := normalKnownUptoRow, standIns := [], harness := (true, "947580626f167cfe0bf8d63999aeec520d77d792ca7f43cbf5851d2f282c14e2"), looks := true }, kinds := [], alts := [], laidByText := true, laidKinds := [.data, .data, .data, .data, .sentinel, .sentinel, .pinned], laidTests := true, laidLooks := .later }
def NormalKnownUptoCardSaid : Prop := Claim7.holds Tryz.pinned (.plain (OpenSpec.upto normalKnownSpec)) normalKnownUptoCard
end Rows
end Go.Proofs.YtgidpknckbgmbaaGreatDoor
