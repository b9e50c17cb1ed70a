/-
  DERIVED. GIVEN WITH THE SEED: THE CARDS: each row of YtnkcanhkdfckmaaDoorRows.lean that lists a variable, with what it lists TIED to the program's text (the seventh form; the later family's looks); each row that meets fmt, with fmt's text TOLD by the authors' own Lean function (tested against real Go, not proved from fmt's source: count such statements apart). THE CARD IS WHAT COUNTS. Prove the row's statement (the work); the ties are given (YtnkcanhkdfckmaaDoorTie.lean); close each card by the builder's one call (the guide's Derived/Test/ToyasCard.lean, 'card_holds'). Laid BY PROGRAM, IN A SANDBOX (cutbox-door.mjs). By AI agents, Wed Nov 11 2026. No macro, syntax, notation, axiom, sorry.
-/
import Derived.Test.YtnkcanhkdfckmaaDoorRows
import GoSem.ClaimSeven
namespace Go.Proofs.YtnkcanhkdfckmaaDoor
namespace Rows

/-- THE TIED CARD OF 'mailroomlaw09.HeadNames'. -/
def headNamesCard : Claim7 := { stood := { row := headNamesRow, standIns := [], harness := (true, "bab47dbc824b748e4078c7a909df247f822ac5b81dac29c796b8a38f1e93f15c"), looks := false }, kinds := [], alts := [], laidByText := true, laidKinds := [.data, .pinned], laidTests := true, laidLooks := .later }
def HeadNamesCardSaid : Prop := Claim7.holds Tryd.pinned (.plain (OpenSpec.ofChange headNamesSpec)) headNamesCard

/-- THE TIED CARD OF 'mailroomlaw09.HeadTells'. -/
def headTellsCard : Claim7 := { stood := { row := headTellsRow, standIns := [], harness := (true, "bab47dbc824b748e4078c7a909df247f822ac5b81dac29c796b8a38f1e93f15c"), looks := false }, kinds := [], alts := [], laidByText := true, laidKinds := [.data, .pinned], laidTests := true, laidLooks := .later }
def HeadTellsCardSaid : Prop := Claim7.holds Tryd.pinned (.plain (OpenSpec.ofChange headTellsSpec)) headTellsCard

/-- THE TIED CARD OF 'mailroomlaw09.HeadSays'. -/
def headSaysCard : Claim7 := { stood := { row := headSaysRow, standIns := [], harness := (true, "bab47dbc824b748e4078c7a909df247f822ac5b81dac29c796b8a38f1e93f15c"), looks := false }, kinds := [], alts := [], laidByText := true, laidKinds := [.data, .pinned], laidTests := true, laidLooks := .later }
def HeadSaysCardSaid : Prop := Claim7.holds Tryd.pinned (.plain (OpenSpec.ofChange headSaysSpec)) headSaysCard

/-- THE TIED CARD OF 'mailroomlaw09.HeadBack'. -/
def headBackCard : Claim7 := { stood := { row := headBackRow, standIns := [], harness := (true, "bab47dbc824b748e4078c7a909df247f822ac5b81dac29c796b8a38f1e93f15c"), looks := false }, kinds := [], alts := [], laidByText := true, laidKinds := [.data, .pinned], laidTests := true, laidLooks := .later }
def HeadBackCardSaid : Prop := Claim7.holds Tryd.pinned (.plain (OpenSpec.ofChange headBackSpec)) headBackCard

/-- THE TIED CARD OF 'mailroomlaw09.HeadBody'. -/
def headBodyCard : Claim7 := { stood := { row := headBodyRow, standIns := [], harness := (true, "bab47dbc824b748e4078c7a909df247f822ac5b81dac29c796b8a38f1e93f15c"), looks := false }, kinds := [], alts := [], laidByText := true, laidKinds := [.data, .pinned], laidTests := true, laidLooks := .later }
def HeadBodyCardSaid : Prop := Claim7.holds Tryd.pinned (.plain (OpenSpec.ofChange headBodySpec)) headBodyCard

/-- THE TIED CARD OF 'mailroomlaw09.HeadGreat'. -/
def headGreatCard : Claim7 := { stood := { row := headGreatRow, standIns := [], harness := (true, "bab47dbc824b748e4078c7a909df247f822ac5b81dac29c796b8a38f1e93f15c"), looks := false }, kinds := [], alts := [], laidByText := true, laidKinds := [.data, .pinned], laidTests := true, laidLooks := .later }
def HeadGreatCardSaid : Prop := Claim7.holds Tryd.pinned (.plain (OpenSpec.ofChange headGreatSpec)) headGreatCard

/-- THE SECOND FORM's CARD OF 'mailroomlaw09.HeadNames'. -/
def headNamesUptoCard : Claim7 := { stood := { row := headNamesUptoRow, standIns := [], harness := (true, "bab47dbc824b748e4078c7a909df247f822ac5b81dac29c796b8a38f1e93f15c"), looks := false }, kinds := [], alts := [], laidByText := true, laidKinds := [.data, .pinned], laidTests := true, laidLooks := .later }
def HeadNamesUptoCardSaid : Prop := Claim7.holds Tryd.pinned (.plain (OpenSpec.upto headNamesSpec)) headNamesUptoCard

/-- THE SECOND FORM's CARD OF 'mailroomlaw09.HeadTells'. -/
def headTellsUptoCard : Claim7 := { stood := { row := headTellsUptoRow, standIns := [], harness := (true, "bab47dbc824b748e4078c7a909df247f822ac5b81dac29c796b8a38f1e93f15c"), looks := false }, kinds := [], alts := [], laidByText := true, laidKinds := [.data, .pinned], laidTests := true, laidLooks := .later }
def HeadTellsUptoCardSaid : Prop := Claim7.holds Tryd.pinned (.plain (OpenSpec.upto headTellsSpec)) headTellsUptoCard

/-- THE SECOND FORM's CARD OF 'mailroomlaw09.HeadSays'. -/
def headSaysUptoCard : Claim7 := { stood := { row := headSaysUptoRow, standIns := [], harness := (true, "bab47dbc824b748e4078c7a909df247f822ac5b81dac29c796b8a38f1e93f15c"), looks := false }, kinds := [], alts := [], laidByText := true, laidKinds := [.data, .pinned], laidTests := true, laidLooks := .later }
def HeadSaysUptoCardSaid : Prop := Claim7.holds Tryd.pinned (.plain (OpenSpec.upto headSaysSpec)) headSaysUptoCard

/-- THE SECOND FORM's CARD OF 'mailroomlaw09.HeadBack'. -/
def headBackUptoCard : Claim7 := { stood := { row := headBackUptoRow, standIns := [], harness := (true, "bab47dbc824b748e4078c7a909df247f822ac5b81dac29c796b8a38f1e93f15c"), looks := false }, kinds := [], alts := [], laidByText := true, laidKinds := [.data, .pinned], laidTests := true, laidLooks := .later }
def HeadBackUptoCardSaid : Prop := Claim7.holds Tryd.pinned (.plain (OpenSpec.upto headBackSpec)) headBackUptoCard

/-- THE SECOND FORM's CARD OF 'mailroomlaw09.HeadBody'. -/
def headBodyUptoCard : Claim7 := { stood := { row := headBodyUptoRow, standIns := [], harness := (true, "bab47dbc824b748e4078c7a909df247f822ac5b81dac29c796b8a38f1e93f15c"), looks := false }, kinds := [], alts := [], laidByText := true, laidKinds := [.data, .pinned], laidTests := true, laidLooks := .later }
def HeadBodyUptoCardSaid : Prop := Claim7.holds Tryd.pinned (.plain (OpenSpec.upto headBodySpec)) headBodyUptoCard

/-- THE SECOND FORM's CARD OF 'mailroomlaw09.HeadGreat'. -/
def headGreatUptoCard : Claim7 := { stood := { row := headGreatUptoRow, standIns := [], harness := (true, "bab47dbc824b748e4078c7a909df247f822ac5b81dac29c796b8a38f1e93f15c"), looks := false }, kinds := [], alts := [], laidByText := true, laidKinds := [.data, .pinned], laidTests := true, laidLooks := .later }
def HeadGreatUptoCardSaid : Prop := Claim7.holds Tryd.pinned (.plain (OpenSpec.upto headGreatSpec)) headGreatUptoCard
end Rows
end Go.Proofs.YtnkcanhkdfckmaaDoor
