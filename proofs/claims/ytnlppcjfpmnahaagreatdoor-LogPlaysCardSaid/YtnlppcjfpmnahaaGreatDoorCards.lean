/-
  DERIVED. GIVEN WITH THE SEED: THE CARDS: each row of YtnlppcjfpmnahaaGreatDoorRows.lean that lists a variable, with what it lists TIED to the program's text (the seventh form; the later family's looks); each row that meets fmt, with fmt's text TOLD by the authors' own Lean function (tested against real Go, not proved from fmt's source: count such statements apart). THE CARD IS WHAT COUNTS. Prove the row's statement (the work); the ties are given (YtnlppcjfpmnahaaGreatDoorTie.lean); close each card by the builder's one call (the guide's Derived/Test/ToyasCard.lean, 'card_holds'). Laid BY PROGRAM, IN A SANDBOX (cutbox-door.mjs). By AI agents, Wed Nov 11 2026. No macro, syntax, notation, axiom, sorry.
-/
import Derived.Test.YtnlppcjfpmnahaaGreatDoorRows
import GoSem.ClaimSeven
namespace Go.Proofs.YtnlppcjfpmnahaaGreatDoor
namespace Rows

/-- THE TIED CARD OF 'mailroomlaw12.LogPower'. -/
def logPowerCard : Claim7 := { stood := { row := logPowerRow, standIns := [], harness := (true, "346f1eef7e3db2915a0ab6360fc1a83ec94391f6395507053d18594df00dba67"), looks := true }, kinds := [], alts := [], laidByText := true, laidKinds := [.data, .pinned], laidTests := true, laidLooks := .later }
def LogPowerCardSaid : Prop := Claim7.holds Tryz.pinned (.plain (OpenSpec.ofChange logPowerSpec)) logPowerCard

/-- THE TIED CARD OF 'mailroomlaw12.LogNames'. -/
def logNamesCard : Claim7 := { stood := { row := logNamesRow, standIns := [], harness := (true, "346f1eef7e3db2915a0ab6360fc1a83ec94391f6395507053d18594df00dba67"), looks := true }, kinds := [], alts := [], laidByText := true, laidKinds := [.data, .pinned], laidTests := true, laidLooks := .later }
def LogNamesCardSaid : Prop := Claim7.holds Tryz.pinned (.plain (OpenSpec.ofChange logNamesSpec)) logNamesCard

/-- THE TIED CARD OF 'mailroomlaw12.LogPlays'. -/
def logPlaysCard : Claim7 := { stood := { row := logPlaysRow, standIns := [], harness := (true, "346f1eef7e3db2915a0ab6360fc1a83ec94391f6395507053d18594df00dba67"), looks := true }, kinds := [], alts := [], laidByText := true, laidKinds := [.data, .pinned], laidTests := true, laidLooks := .later }
def LogPlaysCardSaid : Prop := Claim7.holds Tryz.pinned (.plain (OpenSpec.ofChange logPlaysSpec)) logPlaysCard

/-- THE SECOND FORM's CARD OF 'mailroomlaw12.LogPower'. -/
def logPowerUptoCard : Claim7 := { stood := { row := logPowerUptoRow, standIns := [], harness := (true, "346f1eef7e3db2915a0ab6360fc1a83ec94391f6395507053d18594df00dba67"), looks := true }, kinds := [], alts := [], laidByText := true, laidKinds := [.data, .pinned], laidTests := true, laidLooks := .later }
def LogPowerUptoCardSaid : Prop := Claim7.holds Tryz.pinned (.plain (OpenSpec.upto logPowerSpec)) logPowerUptoCard

/-- THE SECOND FORM's CARD OF 'mailroomlaw12.LogNames'. -/
def logNamesUptoCard : Claim7 := { stood := { row := logNamesUptoRow, standIns := [], harness := (true, "346f1eef7e3db2915a0ab6360fc1a83ec94391f6395507053d18594df00dba67"), looks := true }, kinds := [], alts := [], laidByText := true, laidKinds := [.data, .pinned], laidTests := true, laidLooks := .later }
def LogNamesUptoCardSaid : Prop := Claim7.holds Tryz.pinned (.plain (OpenSpec.upto logNamesSpec)) logNamesUptoCard

/-- THE SECOND FORM's CARD OF 'mailroomlaw12.LogPlays'. -/
def logPlaysUptoCard : Claim7 := { stood := { row := logPlaysUptoRow, standIns := [], harness := (true, "346f1eef7e3db2915a0ab6360fc1a83ec94391f6395507053d18594df00dba67"), looks := true }, kinds := [], alts := [], laidByText := true, laidKinds := [.data, .pinned], laidTests := true, laidLooks := .later }
def LogPlaysUptoCardSaid : Prop := Claim7.holds Tryz.pinned (.plain (OpenSpec.upto logPlaysSpec)) logPlaysUptoCard
end Rows
end Go.Proofs.YtnlppcjfpmnahaaGreatDoor
