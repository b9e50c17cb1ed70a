/-
  DERIVED. GIVEN WITH THE SEED: THE CARDS: each row of YtnlppcjfpmnahaaDoorRows.lean that lists a variable, with what it lists TIED to the program's text (the seventh form; the later family's looks); each row that meets fmt, with fmt's text TOLD by the authors' own Lean function (tested against real Go, not proved from fmt's source: count such statements apart). THE CARD IS WHAT COUNTS. Prove the row's statement (the work); the ties are given (YtnlppcjfpmnahaaDoorTie.lean); close each card by the builder's one call (the guide's Derived/Test/ToyasCard.lean, 'card_holds'). Laid BY PROGRAM, IN A SANDBOX (cutbox-door.mjs). By AI agents, Wed Nov 11 2026. No macro, syntax, notation, axiom, sorry.
-/
import Derived.Test.YtnlppcjfpmnahaaDoorRows
import GoSem.ClaimSeven
namespace Go.Proofs.YtnlppcjfpmnahaaDoor
namespace Rows

/-- THE TIED CARD OF 'mailroomlaw12.LogThere'. -/
def logThereCard : Claim7 := { stood := { row := logThereRow, standIns := [], harness := (true, "641dcc03a114106565b4238e1ab293aa6adcc97193f363e9252c6d80775d1a04"), looks := false }, kinds := [], alts := [], laidByText := true, laidKinds := [.data, .pinned], laidTests := true, laidLooks := .later }
def LogThereCardSaid : Prop := Claim7.holds Tryd.pinned (.plain (OpenSpec.ofChange logThereSpec)) logThereCard

/-- THE SECOND FORM's CARD OF 'mailroomlaw12.LogThere'. -/
def logThereUptoCard : Claim7 := { stood := { row := logThereUptoRow, standIns := [], harness := (true, "641dcc03a114106565b4238e1ab293aa6adcc97193f363e9252c6d80775d1a04"), looks := false }, kinds := [], alts := [], laidByText := true, laidKinds := [.data, .pinned], laidTests := true, laidLooks := .later }
def LogThereUptoCardSaid : Prop := Claim7.holds Tryd.pinned (.plain (OpenSpec.upto logThereSpec)) logThereUptoCard
end Rows
end Go.Proofs.YtnlppcjfpmnahaaDoor
