/-
  DERIVED. GIVEN WITH THE SEED: THE CARDS: each row of YtehkdbgoeakgbaaDoorRows.lean that lists a variable, with what it lists TIED to the program's text (the seventh form; the later family's looks); each row that meets fmt, with fmt's text TOLD by the authors' own Lean function (tested against real Go, not proved from fmt's source: count such statements apart). THE CARD IS WHAT COUNTS. Prove the row's statement (the work); the ties are given (YtehkdbgoeakgbaaDoorTie.lean); close each card by the builder's one call (the guide's Derived/Test/ToyasCard.lean, 'card_holds'). Laid BY PROGRAM, IN A SANDBOX (cutbox-door.mjs). By AI agents, Wed Nov 11 2026. No macro, syntax, notation, axiom, sorry.
-/
import Derived.Test.YtehkdbgoeakgbaaDoorRows
import GoSem.ClaimSeven
namespace Go.Proofs.YtehkdbgoeakgbaaDoor
namespace Rows

/-- THE TIED CARD OF 'mailroomlaw07.CmdMakes'. -/
def cmdMakesCard : Claim7 := { stood := { row := cmdMakesRow, standIns := [], harness := (true, "8b1911b2612934b3cae57adee625c2f863815d06a550b2a9492391d341f5f210"), looks := false }, kinds := [], alts := [], laidByText := true, laidKinds := [.data, .data, .data, .funcsDeep], laidTests := true, laidLooks := .later }
def CmdMakesCardSaid : Prop := Claim7.holds Tryd.pinned (.plain (OpenSpec.ofChange cmdMakesSpec)) cmdMakesCard

/-- THE TIED CARD OF 'mailroomlaw07.CmdOffers'. -/
def cmdOffersCard : Claim7 := { stood := { row := cmdOffersRow, standIns := [], harness := (true, "8b1911b2612934b3cae57adee625c2f863815d06a550b2a9492391d341f5f210"), looks := false }, kinds := [], alts := [], laidByText := true, laidKinds := [.data, .data, .data, .funcsDeep], laidTests := true, laidLooks := .later }
def CmdOffersCardSaid : Prop := Claim7.holds Tryd.pinned (.plain (OpenSpec.ofChange cmdOffersSpec)) cmdOffersCard

/-- THE TIED CARD OF 'mailroomlaw07.CmdBack'. -/
def cmdBackCard : Claim7 := { stood := { row := cmdBackRow, standIns := [], harness := (true, "8b1911b2612934b3cae57adee625c2f863815d06a550b2a9492391d341f5f210"), looks := false }, kinds := [], alts := [], laidByText := true, laidKinds := [.data, .data, .data, .funcsDeep], laidTests := true, laidLooks := .later }
def CmdBackCardSaid : Prop := Claim7.holds Tryd.pinned (.plain (OpenSpec.ofChange cmdBackSpec)) cmdBackCard

/-- THE TIED CARD OF 'mailroomlaw07.CmdLine'. -/
def cmdLineCard : Claim7 := { stood := { row := cmdLineRow, standIns := [], harness := (true, "8b1911b2612934b3cae57adee625c2f863815d06a550b2a9492391d341f5f210"), looks := false }, kinds := [], alts := [], laidByText := true, laidKinds := [.data, .data, .data, .funcsDeep], laidTests := true, laidLooks := .later }
def CmdLineCardSaid : Prop := Claim7.holds Tryd.pinned (.plain (OpenSpec.ofChange cmdLineSpec)) cmdLineCard

/-- THE TIED CARD OF 'mailroomlaw07.CmdNames'. -/
def cmdNamesCard : Claim7 := { stood := { row := cmdNamesRow, standIns := [], harness := (true, "8b1911b2612934b3cae57adee625c2f863815d06a550b2a9492391d341f5f210"), looks := false }, kinds := [], alts := [], laidByText := true, laidKinds := [.data, .data, .data, .funcsDeep], laidTests := true, laidLooks := .later }
def CmdNamesCardSaid : Prop := Claim7.holds Tryd.pinned (.plain (OpenSpec.ofChange cmdNamesSpec)) cmdNamesCard

/-- THE SECOND FORM's CARD OF 'mailroomlaw07.CmdMakes'. -/
def cmdMakesUptoCard : Claim7 := { stood := { row := cmdMakesUptoRow, standIns := [], harness := (true, "8b1911b2612934b3cae57adee625c2f863815d06a550b2a9492391d341f5f210"), looks := false }, kinds := [], alts := [], laidByText := true, laidKinds := [.data, .data, .data, .funcsDeep], laidTests := true, laidLooks := .later }
def CmdMakesUptoCardSaid : Prop := Claim7.holds Tryd.pinned (.plain (OpenSpec.upto cmdMakesSpec)) cmdMakesUptoCard

/-- THE SECOND FORM's CARD OF 'mailroomlaw07.CmdOffers'. -/
def cmdOffersUptoCard : Claim7 := { stood := { row := cmdOffersUptoRow, standIns := [], harness := (true, "8b1911b2612934b3cae57adee625c2f863815d06a550b2a9492391d341f5f210"), looks := false }, kinds := [], alts := [], laidByText := true, laidKinds := [.data, .data, .data, .funcsDeep], laidTests := true, laidLooks := .later }
def CmdOffersUptoCardSaid : Prop := Claim7.holds Tryd.pinned (.plain (OpenSpec.upto cmdOffersSpec)) cmdOffersUptoCard

/-- THE SECOND FORM's CARD OF 'mailroomlaw07.CmdBack'. -/
def cmdBackUptoCard : Claim7 := { stood := { row := cmdBackUptoRow, standIns := [], harness := (true, "8b1911b2612934b3cae57adee625c2f863815d06a550b2a9492391d341f5f210"), looks := false }, kinds := [], alts := [], laidByText := true, laidKinds := [.data, .data, .data, .funcsDeep], laidTests := true, laidLooks := .later }
def CmdBackUptoCardSaid : Prop := Claim7.holds Tryd.pinned (.plain (OpenSpec.upto cmdBackSpec)) cmdBackUptoCard

/-- THE SECOND FORM's CARD OF 'mailroomlaw07.CmdLine'. -/
def cmdLineUptoCard : Claim7 := { stood := { row := cmdLineUptoRow, standIns := [], harness := (true, "8b1911b2612934b3cae57adee625c2f863815d06a550b2a9492391d341f5f210"), looks := false }, kinds := [], alts := [], laidByText := true, laidKinds := [.data, .data, .data, .funcsDeep], laidTests := true, laidLooks := .later }
def CmdLineUptoCardSaid : Prop := Claim7.holds Tryd.pinned (.plain (OpenSpec.upto cmdLineSpec)) cmdLineUptoCard

/-- THE SECOND FORM's CARD OF 'mailroomlaw07.CmdNames'. -/
def cmdNamesUptoCard : Claim7 := { stood := { row := cmdNamesUptoRow, standIns := [], harness := (true, "8b1911b2612934b3cae57adee625c2f863815d06a550b2a9492391d341f5f210"), looks := false }, kinds := [], alts := [], laidByText := true, laidKinds := [.data, .data, .data, .funcsDeep], laidTests := true, laidLooks := .later }
def CmdNamesUptoCardSaid : Prop := Claim7.holds Tryd.pinned (.plain (OpenSpec.upto cmdNamesSpec)) cmdNamesUptoCard
end Rows
end Go.Proofs.YtehkdbgoeakgbaaDoor
