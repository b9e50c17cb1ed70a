/-
  DERIVED. GIVEN WITH THE SEED: THE CARDS: each row of YtlmifdkhdcbniaaDoorRows.lean that lists a variable, with what it lists TIED to the program's text (the seventh form; the later family's looks); each row that meets fmt, with fmt's text TOLD by the authors' own Lean function (tested against real Go, not proved from fmt's source: count such statements apart). THE CARD IS WHAT COUNTS. Prove the row's statement (the work); the ties are given (YtlmifdkhdcbniaaDoorTie.lean); close each card by the builder's one call (the guide's Derived/Test/ToyasCard.lean, 'card_holds'). Laid BY PROGRAM, IN A SANDBOX (cutbox-door.mjs). By AI agents, Wed Nov 11 2026. No macro, syntax, notation, axiom, sorry.
-/
import Derived.Test.YtlmifdkhdcbniaaDoorRows
import GoSem.ClaimSeven
namespace Go.Proofs.YtlmifdkhdcbniaaDoor
namespace Rows

/-- THE TIED CARD OF 'mailroomlaw04.AddrSame'. -/
def addrSameCard : Claim7 := { stood := { row := addrSameRow, standIns := [], harness := (true, "d68df7acaabf00be2c9a717562b0ae1d8eca08e6eb8de9e36b09cd59efad44c5"), looks := false }, kinds := [], alts := [], laidByText := true, laidKinds := [.funcsDeep], laidTests := true, laidLooks := .later }
def AddrSameCardSaid : Prop := Claim7.holds Tryd.pinned (.plain (OpenSpec.ofChange addrSameSpec)) addrSameCard

/-- THE TIED CARD OF 'mailroomlaw04.AddrTells'. -/
def addrTellsCard : Claim7 := { stood := { row := addrTellsRow, standIns := [], harness := (true, "d68df7acaabf00be2c9a717562b0ae1d8eca08e6eb8de9e36b09cd59efad44c5"), looks := false }, kinds := [], alts := [], laidByText := true, laidKinds := [.funcsDeep], laidTests := true, laidLooks := .later }
def AddrTellsCardSaid : Prop := Claim7.holds Tryd.pinned (.plain (OpenSpec.ofChange addrTellsSpec)) addrTellsCard

/-- THE TIED CARD OF 'mailroomlaw04.AddrBack'. -/
def addrBackCard : Claim7 := { stood := { row := addrBackRow, standIns := [], harness := (true, "d68df7acaabf00be2c9a717562b0ae1d8eca08e6eb8de9e36b09cd59efad44c5"), looks := false }, kinds := [], alts := [], laidByText := true, laidKinds := [.funcsDeep], laidTests := true, laidLooks := .later }
def AddrBackCardSaid : Prop := Claim7.holds Tryd.pinned (.plain (OpenSpec.ofChange addrBackSpec)) addrBackCard

/-- THE TIED CARD OF 'mailroomlaw04.AddrMails'. -/
def addrMailsCard : Claim7 := { stood := { row := addrMailsRow, standIns := [], harness := (true, "d68df7acaabf00be2c9a717562b0ae1d8eca08e6eb8de9e36b09cd59efad44c5"), looks := false }, kinds := [], alts := [], laidByText := true, laidKinds := [.funcsDeep], laidTests := true, laidLooks := .later }
def AddrMailsCardSaid : Prop := Claim7.holds Tryd.pinned (.plain (OpenSpec.ofChange addrMailsSpec)) addrMailsCard

/-- THE TIED CARD OF 'mailroomlaw04.AddrLess'. -/
def addrLessCard : Claim7 := { stood := { row := addrLessRow, standIns := [], harness := (true, "d68df7acaabf00be2c9a717562b0ae1d8eca08e6eb8de9e36b09cd59efad44c5"), looks := false }, kinds := [], alts := [], laidByText := true, laidKinds := [.funcsDeep], laidTests := true, laidLooks := .later }
def AddrLessCardSaid : Prop := Claim7.holds Tryd.pinned (.plain (OpenSpec.ofChange addrLessSpec)) addrLessCard

/-- THE TIED CARD OF 'mailroomlaw04.AddrNames'. -/
def addrNamesCard : Claim7 := { stood := { row := addrNamesRow, standIns := [], harness := (true, "d68df7acaabf00be2c9a717562b0ae1d8eca08e6eb8de9e36b09cd59efad44c5"), looks := false }, kinds := [], alts := [], laidByText := true, laidKinds := [.funcsDeep], laidTests := true, laidLooks := .later }
def AddrNamesCardSaid : Prop := Claim7.holds Tryd.pinned (.plain (OpenSpec.ofChange addrNamesSpec)) addrNamesCard

/-- THE SECOND FORM's CARD OF 'mailroomlaw04.AddrSame'. -/
def addrSameUptoCard : Claim7 := { stood := { row := addrSameUptoRow, standIns := [], harness := (true, "d68df7acaabf00be2c9a717562b0ae1d8eca08e6eb8de9e36b09cd59efad44c5"), looks := false }, kinds := [], alts := [], laidByText := true, laidKinds := [.funcsDeep], laidTests := true, laidLooks := .later }
def AddrSameUptoCardSaid : Prop := Claim7.holds Tryd.pinned (.plain (OpenSpec.upto addrSameSpec)) addrSameUptoCard

/-- THE SECOND FORM's CARD OF 'mailroomlaw04.AddrTells'. -/
def addrTellsUptoCard : Claim7 := { stood := { row := addrTellsUptoRow, standIns := [], harness := (true, "d68df7acaabf00be2c9a717562b0ae1d8eca08e6eb8de9e36b09cd59efad44c5"), looks := false }, kinds := [], alts := [], laidByText := true, laidKinds := [.funcsDeep], laidTests := true, laidLooks := .later }
def AddrTellsUptoCardSaid : Prop := Claim7.holds Tryd.pinned (.plain (OpenSpec.upto addrTellsSpec)) addrTellsUptoCard

/-- THE SECOND FORM's CARD OF 'mailroomlaw04.AddrBack'. -/
def addrBackUptoCard : Claim7 := { stood := { row := addrBackUptoRow, standIns := [], harness := (true, "d68df7acaabf00be2c9a717562b0ae1d8eca08e6eb8de9e36b09cd59efad44c5"), looks := false }, kinds := [], alts := [], laidByText := true, laidKinds := [.funcsDeep], laidTests := true, laidLooks := .later }
def AddrBackUptoCardSaid : Prop := Claim7.holds Tryd.pinned (.plain (OpenSpec.upto addrBackSpec)) addrBackUptoCard

/-- THE SECOND FORM's CARD OF 'mailroomlaw04.AddrMails'. -/
def addrMailsUptoCard : Claim7 := { stood := { row := addrMailsUptoRow, standIns := [], harness := (true, "d68df7acaabf00be2c9a717562b0ae1d8eca08e6eb8de9e36b09cd59efad44c5"), looks := false }, kinds := [], alts := [], laidByText := true, laidKinds := [.funcsDeep], laidTests := true, laidLooks := .later }
def AddrMailsUptoCardSaid : Prop := Claim7.holds Tryd.pinned (.plain (OpenSpec.upto addrMailsSpec)) addrMailsUptoCard

/-- THE SECOND FORM's CARD OF 'mailroomlaw04.AddrLess'. -/
def addrLessUptoCard : Claim7 := { stood := { row := addrLessUptoRow, standIns := [], harness := (true, "d68df7acaabf00be2c9a717562b0ae1d8eca08e6eb8de9e36b09cd59efad44c5"), looks := false }, kinds := [], alts := [], laidByText := true, laidKinds := [.funcsDeep], laidTests := true, laidLooks := .later }
def AddrLessUptoCardSaid : Prop := Claim7.holds Tryd.pinned (.plain (OpenSpec.upto addrLessSpec)) addrLessUptoCard

/-- THE SECOND FORM's CARD OF 'mailroomlaw04.AddrNames'. -/
def addrNamesUptoCard : Claim7 := { stood := { row := addrNamesUptoRow, standIns := [], harness := (true, "d68df7acaabf00be2c9a717562b0ae1d8eca08e6eb8de9e36b09cd59efad44c5"), looks := false }, kinds := [], alts := [], laidByText := true, laidKinds := [.funcsDeep], laidTests := true, laidLooks := .later }
def AddrNamesUptoCardSaid : Prop := Claim7.holds Tryd.pinned (.plain (OpenSpec.upto addrNamesSpec)) addrNamesUptoCard
end Rows
end Go.Proofs.YtlmifdkhdcbniaaDoor
