/-
  DERIVED. GIVEN WITH THE SEED: THE CARDS: each row of YtdfkjjopekceoaaDoorRows.lean that lists a variable, with what it lists TIED to the program's text (the seventh form; the later family's looks); each row that meets fmt, with fmt's text TOLD by the authors' own Lean function (tested against real Go, not proved from fmt's source: count such statements apart). THE CARD IS WHAT COUNTS. Prove the row's statement (the work); the ties are given (YtdfkjjopekceoaaDoorTie.lean); close each card by the builder's one call (the guide's Derived/Test/ToyasCard.lean, 'card_holds'). Laid BY PROGRAM, IN A SANDBOX (cutbox-door.mjs). By AI agents, Wed Nov 11 2026. No macro, syntax, notation, axiom, sorry.
-/
import Derived.Test.YtdfkjjopekceoaaDoorRows
import GoSem.ClaimSeven
namespace Go.Proofs.YtdfkjjopekceoaaDoor
namespace Rows

/-- THE TIED CARD OF 'mailroomlaw11.FrameRecords'. -/
def frameRecordsCard : Claim7 := { stood := { row := frameRecordsRow, standIns := [], harness := (true, "e74044375904c0ed8d19051746853c92f316728ada2df14cd6ce71f971971a4d"), looks := false }, kinds := [], alts := [], laidByText := true, laidKinds := [.data, .pinned], laidTests := true, laidLooks := .later }
def FrameRecordsCardSaid : Prop := Claim7.holds Tryd.pinned (.plain (OpenSpec.ofChange frameRecordsSpec)) frameRecordsCard

/-- THE TIED CARD OF 'mailroomlaw11.FrameGone'. -/
def frameGoneCard : Claim7 := { stood := { row := frameGoneRow, standIns := [], harness := (true, "e74044375904c0ed8d19051746853c92f316728ada2df14cd6ce71f971971a4d"), looks := false }, kinds := [], alts := [], laidByText := true, laidKinds := [.data, .pinned], laidTests := true, laidLooks := .later }
def FrameGoneCardSaid : Prop := Claim7.holds Tryd.pinned (.plain (OpenSpec.ofChange frameGoneSpec)) frameGoneCard

/-- THE TIED CARD OF 'mailroomlaw11.FrameRow'. -/
def frameRowCard : Claim7 := { stood := { row := frameRowRow, standIns := [], harness := (true, "e74044375904c0ed8d19051746853c92f316728ada2df14cd6ce71f971971a4d"), looks := false }, kinds := [], alts := [], laidByText := true, laidKinds := [.data, .pinned], laidTests := true, laidLooks := .later }
def FrameRowCardSaid : Prop := Claim7.holds Tryd.pinned (.plain (OpenSpec.ofChange frameRowSpec)) frameRowCard

/-- THE TIED CARD OF 'mailroomlaw11.FrameTells'. -/
def frameTellsCard : Claim7 := { stood := { row := frameTellsRow, standIns := [], harness := (true, "e74044375904c0ed8d19051746853c92f316728ada2df14cd6ce71f971971a4d"), looks := false }, kinds := [], alts := [], laidByText := true, laidKinds := [.data, .pinned], laidTests := true, laidLooks := .later }
def FrameTellsCardSaid : Prop := Claim7.holds Tryd.pinned (.plain (OpenSpec.ofChange frameTellsSpec)) frameTellsCard

/-- THE TIED CARD OF 'mailroomlaw11.FrameBack'. -/
def frameBackCard : Claim7 := { stood := { row := frameBackRow, standIns := [], harness := (true, "e74044375904c0ed8d19051746853c92f316728ada2df14cd6ce71f971971a4d"), looks := false }, kinds := [], alts := [], laidByText := true, laidKinds := [.data, .pinned], laidTests := true, laidLooks := .later }
def FrameBackCardSaid : Prop := Claim7.holds Tryd.pinned (.plain (OpenSpec.ofChange frameBackSpec)) frameBackCard

/-- THE TIED CARD OF 'mailroomlaw11.FrameTorn'. -/
def frameTornCard : Claim7 := { stood := { row := frameTornRow, standIns := [], harness := (true, "e74044375904c0ed8d19051746853c92f316728ada2df14cd6ce71f971971a4d"), looks := false }, kinds := [], alts := [], laidByText := true, laidKinds := [.data, .pinned], laidTests := true, laidLooks := .later }
def FrameTornCardSaid : Prop := Claim7.holds Tryd.pinned (.plain (OpenSpec.ofChange frameTornSpec)) frameTornCard

/-- THE SECOND FORM's CARD OF 'mailroomlaw11.FrameRecords'. -/
def frameRecordsUptoCard : Claim7 := { stood := { row := frameRecordsUptoRow, standIns := [], harness := (true, "e74044375904c0ed8d19051746853c92f316728ada2df14cd6ce71f971971a4d"), looks := false }, kinds := [], alts := [], laidByText := true, laidKinds := [.data, .pinned], laidTests := true, laidLooks := .later }
def FrameRecordsUptoCardSaid : Prop := Claim7.holds Tryd.pinned (.plain (OpenSpec.upto frameRecordsSpec)) frameRecordsUptoCard

/-- THE SECOND FORM's CARD OF 'mailroomlaw11.FrameGone'. -/
def frameGoneUptoCard : Claim7 := { stood := { row := frameGoneUptoRow, standIns := [], harness := (true, "e74044375904c0ed8d19051746853c92f316728ada2df14cd6ce71f971971a4d"), looks := false }, kinds := [], alts := [], laidByText := true, laidKinds := [.data, .pinned], laidTests := true, laidLooks := .later }
def FrameGoneUptoCardSaid : Prop := Claim7.holds Tryd.pinned (.plain (OpenSpec.upto frameGoneSpec)) frameGoneUptoCard

/-- THE SECOND FORM's CARD OF 'mailroomlaw11.FrameRow'. -/
def frameRowUptoCard : Claim7 := { stood := { row := frameRowUptoRow, standIns := [], harness := (true, "e74044375904c0ed8d19051746853c92f316728ada2df14cd6ce71f971971a4d"), looks := false }, kinds := [], alts := [], laidByText := true, laidKinds := [.data, .pinned], laidTests := true, laidLooks := .later }
def FrameRowUptoCardSaid : Prop := Claim7.holds Tryd.pinned (.plain (OpenSpec.upto frameRowSpec)) frameRowUptoCard

/-- THE SECOND FORM's CARD OF 'mailroomlaw11.FrameTells'. -/
def frameTellsUptoCard : Claim7 := { stood := { row := frameTellsUptoRow, standIns := [], harness := (true, "e74044375904c0ed8d19051746853c92f316728ada2df14cd6ce71f971971a4d"), looks := false }, kinds := [], alts := [], laidByText := true, laidKinds := [.data, .pinned], laidTests := true, laidLooks := .later }
def FrameTellsUptoCardSaid : Prop := Claim7.holds Tryd.pinned (.plain (OpenSpec.upto frameTellsSpec)) frameTellsUptoCard

/-- THE SECOND FORM's CARD OF 'mailroomlaw11.FrameBack'. -/
def frameBackUptoCard : Claim7 := { stood := { row := frameBackUptoRow, standIns := [], harness := (true, "e74044375904c0ed8d19051746853c92f316728ada2df14cd6ce71f971971a4d"), looks := false }, kinds := [], alts := [], laidByText := true, laidKinds := [.data, .pinned], laidTests := true, laidLooks := .later }
def FrameBackUptoCardSaid : Prop := Claim7.holds Tryd.pinned (.plain (OpenSpec.upto frameBackSpec)) frameBackUptoCard

/-- THE SECOND FORM's CARD OF 'mailroomlaw11.FrameTorn'. -/
def frameTornUptoCard : Claim7 := { stood := { row := frameTornUptoRow, standIns := [], harness := (true, "e74044375904c0ed8d19051746853c92f316728ada2df14cd6ce71f971971a4d"), looks := false }, kinds := [], alts := [], laidByText := true, laidKinds := [.data, .pinned], laidTests := true, laidLooks := .later }
def FrameTornUptoCardSaid : Prop := Claim7.holds Tryd.pinned (.plain (OpenSpec.upto frameTornSpec)) frameTornUptoCard
end Rows
end Go.Proofs.YtdfkjjopekceoaaDoor
