/-
  NARROWER THAN 'FOR EVERY INPUT', by the rows' own cells (each row's printed sentence says how): AddrSame: laid · AddrTells: laid · AddrBack: laid · AddrMails: laid · AddrLess: laid · AddrNames: laid.
  DERIVED. THE GIVEN ROWS OF THIS SEAT. 6 by the template 'for every input the law returns true; each argument reads behind the call as it read before'; 0 by the template 'total and deterministic' (their statements: YtlmifdkhdcbniaaDoorTotals.lean).
  GIVEN WITH THE SEED: the statements are not yours to turn. If you find one false, say at which input.
  Laid BY PROGRAM, IN A SANDBOX (cutbox-rows.mjs): the forced cells as the released guide's own fill.sh prints them over the translation 3bca5b03c3d335cb… (all of the seat's roots in one cut). By AI agents, Wed Nov 11 2026. No macro, syntax, notation, axiom, sorry.
-/
import Derived.Test.YtlmifdkhdcbniaaDoorChecked
import GoSem.Claim
import GoSem.ClaimJoined
import GoSem.ClaimMapViews
import Derived.JoinedTies
import Derived.KernelRfl
namespace Go.Proofs.YtlmifdkhdcbniaaDoor
/- THE CELL 'sum', in the pinned program and in every row, IS THE sha256 OF THE DUMP (.gsa) THAT YtlmifdkhdcbniaaDoorProg.lean LOADS. Nothing in Lean hashes anything: it is a label: what it is worth is what the hold of that sum in a sandbox is worth. -/
noncomputable def Tryd.pinned : Pinned := { name := "ytlmifdkhdcbniaadoor", sum := "3bca5b03c3d335cb9e699269bf83b7a11a942c725ccd7745ad3433f4ecb71e4f", checked := Tryd.checked }
namespace Rows
def none {H : Type} : Left H := { results := [], args := [] }

/- WHAT THE LISTED PACKAGE-LEVEL VARIABLES READ AS WHEN THE CALL BEGINS. Each datum BY PROGRAM (the guide's laid-datum.mjs) off the statement by which the dump's own 'gosem.cut.vars' lays the variable. In a bare row this is a premise. The card (YtlmifdkhdcbniaaDoorCards.lean) ties it to the program's text. -/
def laid_mailroom_addr_kinds {H : Type} : DataW H := .iface "func table" (.agg [.iface "func" (.lit (.string [109, 97, 105, 108, 114, 111, 111, 109, 47, 97, 100, 100, 114, 46, 97, 116, 111, 109, 115])), .iface "func" (.lit (.string [109, 97, 105, 108, 114, 111, 111, 109, 47, 97, 100, 100, 114, 46, 113, 117, 111, 116, 101, 100]))])

/-- 'mailroomlaw04.AddrSame': WHATEVER THE INPUT: true; the input reads as it did. -/
def addrSameSpec : ChangeSpec := { name := "addrSame", fn := fun _ => fun
  | [d1, d2, d3, d4] => { results := [.lit (.bool true)], args := [d1, d2, d3, d4] }
  | _ => none }
def addrSameRow : OpenClaim := { program := "ytlmifdkhdcbniaadoor", sum := "3bca5b03c3d335cb9e699269bf83b7a11a942c725ccd7745ad3433f4ecb71e4f", func := "mailroom/mailroomlaw04.AddrSame", spec := "addrSame", inPlace := ["internal/bytealg.IndexByteString", "internal/bytealg.IndexString"], unfollowed := true, recurses := true, named := ["mailroom/addr.kinds", "internal/bytealg.MaxLen"], apart := false, laid := [("mailroom/addr.kinds", laid_mailroom_addr_kinds)] }
def AddrSameSaid : Prop := addrSameRow.holds Tryd.pinned (OpenSpec.ofChange addrSameSpec)

/-- ITS FALSE NEIGHBOUR: 'it returns false'. Refute it at one input. -/
def addrSameWrong : ChangeSpec := { name := "addrSame", fn := fun _ => fun
  | [d1, d2, d3, d4] => { results := [.lit (.bool false)], args := [d1, d2, d3, d4] }
  | _ => none }
def AddrSameWrongFalsely : Prop := addrSameRow.holds Tryd.pinned (OpenSpec.ofChange addrSameWrong)

/-- 'mailroomlaw04.AddrTells': WHATEVER THE INPUT: true; the input reads as it did. -/
def addrTellsSpec : ChangeSpec := { name := "addrTells", fn := fun _ => fun
  | [d1, d2] => { results := [.lit (.bool true)], args := [d1, d2] }
  | _ => none }
def addrTellsRow : OpenClaim := { program := "ytlmifdkhdcbniaadoor", sum := "3bca5b03c3d335cb9e699269bf83b7a11a942c725ccd7745ad3433f4ecb71e4f", func := "mailroom/mailroomlaw04.AddrTells", spec := "addrTells", inPlace := ["internal/bytealg.IndexByteString", "internal/bytealg.IndexString"], unfollowed := true, recurses := true, named := ["mailroom/addr.kinds", "internal/bytealg.MaxLen"], apart := false, laid := [("mailroom/addr.kinds", laid_mailroom_addr_kinds)] }
def AddrTellsSaid : Prop := addrTellsRow.holds Tryd.pinned (OpenSpec.ofChange addrTellsSpec)

/-- ITS FALSE NEIGHBOUR: 'it returns false'. Refute it at one input. -/
def addrTellsWrong : ChangeSpec := { name := "addrTells", fn := fun _ => fun
  | [d1, d2] => { results := [.lit (.bool false)], args := [d1, d2] }
  | _ => none }
def AddrTellsWrongFalsely : Prop := addrTellsRow.holds Tryd.pinned (OpenSpec.ofChange addrTellsWrong)

/-- 'mailroomlaw04.AddrBack': WHATEVER THE INPUT: true; the input reads as it did. -/
def addrBackSpec : ChangeSpec := { name := "addrBack", fn := fun _ => fun
  | [d1, d2] => { results := [.lit (.bool true)], args := [d1, d2] }
  | _ => none }
def addrBackRow : OpenClaim := { program := "ytlmifdkhdcbniaadoor", sum := "3bca5b03c3d335cb9e699269bf83b7a11a942c725ccd7745ad3433f4ecb71e4f", func := "mailroom/mailroomlaw04.AddrBack", spec := "addrBack", inPlace := ["internal/bytealg.IndexByteString", "internal/bytealg.IndexString"], unfollowed := true, recurses := true, named := ["mailroom/addr.kinds", "internal/bytealg.MaxLen"], apart := false, laid := [("mailroom/addr.kinds", laid_mailroom_addr_kinds)] }
def AddrBackSaid : Prop := addrBackRow.holds Tryd.pinned (OpenSpec.ofChange addrBackSpec)

/-- ITS FALSE NEIGHBOUR: 'it returns false'. Refute it at one input. -/
def addrBackWrong : ChangeSpec := { name := "addrBack", fn := fun _ => fun
  | [d1, d2] => { results := [.lit (.bool false)], args := [d1, d2] }
  | _ => none }
def AddrBackWrongFalsely : Prop := addrBackRow.holds Tryd.pinned (OpenSpec.ofChange addrBackWrong)

/-- 'mailroomlaw04.AddrMails': WHATEVER THE INPUT: true; the input reads as it did. -/
def addrMailsSpec : ChangeSpec := { name := "addrMails", fn := fun _ => fun
  | [d1, d2, d3] => { results := [.lit (.bool true)], args := [d1, d2, d3] }
  | _ => none }
def addrMailsRow : OpenClaim := { program := "ytlmifdkhdcbniaadoor", sum := "3bca5b03c3d335cb9e699269bf83b7a11a942c725ccd7745ad3433f4ecb71e4f", func := "mailroom/mailroomlaw04.AddrMails", spec := "addrMails", inPlace := ["internal/bytealg.IndexByteString", "internal/bytealg.IndexString"], unfollowed := true, recurses := true, named := ["mailroom/addr.kinds", "internal/bytealg.MaxLen"], apart := false, laid := [("mailroom/addr.kinds", laid_mailroom_addr_kinds)] }
def AddrMailsSaid : Prop := addrMailsRow.holds Tryd.pinned (OpenSpec.ofChange addrMailsSpec)

/-- ITS FALSE NEIGHBOUR: 'it returns false'. Refute it at one input. -/
def addrMailsWrong : ChangeSpec := { name := "addrMails", fn := fun _ => fun
  | [d1, d2, d3] => { results := [.lit (.bool false)], args := [d1, d2, d3] }
  | _ => none }
def AddrMailsWrongFalsely : Prop := addrMailsRow.holds Tryd.pinned (OpenSpec.ofChange addrMailsWrong)

/-- 'mailroomlaw04.AddrLess': WHATEVER THE INPUT: true; the input reads as it did. -/
def addrLessSpec : ChangeSpec := { name := "addrLess", fn := fun _ => fun
  | [d1, d2, d3] => { results := [.lit (.bool true)], args := [d1, d2, d3] }
  | _ => none }
def addrLessRow : OpenClaim := { program := "ytlmifdkhdcbniaadoor", sum := "3bca5b03c3d335cb9e699269bf83b7a11a942c725ccd7745ad3433f4ecb71e4f", func := "mailroom/mailroomlaw04.AddrLess", spec := "addrLess", inPlace := ["internal/bytealg.IndexByteString", "internal/bytealg.IndexString"], unfollowed := true, recurses := true, named := ["mailroom/addr.kinds", "internal/bytealg.MaxLen"], apart := false, laid := [("mailroom/addr.kinds", laid_mailroom_addr_kinds)] }
def AddrLessSaid : Prop := addrLessRow.holds Tryd.pinned (OpenSpec.ofChange addrLessSpec)

/-- ITS FALSE NEIGHBOUR: 'it returns false'. Refute it at one input. -/
def addrLessWrong : ChangeSpec := { name := "addrLess", fn := fun _ => fun
  | [d1, d2, d3] => { results := [.lit (.bool false)], args := [d1, d2, d3] }
  | _ => none }
def AddrLessWrongFalsely : Prop := addrLessRow.holds Tryd.pinned (OpenSpec.ofChange addrLessWrong)

/-- 'mailroomlaw04.AddrNames': WHATEVER THE INPUT: true; the input reads as it did. -/
def addrNamesSpec : ChangeSpec := { name := "addrNames", fn := fun _ => fun
  | [] => { results := [.lit (.bool true)], args := [] }
  | _ => none }
def addrNamesRow : OpenClaim := { program := "ytlmifdkhdcbniaadoor", sum := "3bca5b03c3d335cb9e699269bf83b7a11a942c725ccd7745ad3433f4ecb71e4f", func := "mailroom/mailroomlaw04.AddrNames", spec := "addrNames", inPlace := ["internal/bytealg.IndexByteString", "internal/bytealg.IndexString"], unfollowed := true, recurses := true, named := ["mailroom/addr.kinds", "internal/bytealg.MaxLen"], apart := false, laid := [("mailroom/addr.kinds", laid_mailroom_addr_kinds)] }
def AddrNamesSaid : Prop := addrNamesRow.holds Tryd.pinned (OpenSpec.ofChange addrNamesSpec)

/-- ITS FALSE NEIGHBOUR: 'it returns false'. Refute it at one input. -/
def addrNamesWrong : ChangeSpec := { name := "addrNames", fn := fun _ => fun
  | [] => { results := [.lit (.bool false)], args := [] }
  | _ => none }
def AddrNamesWrongFalsely : Prop := addrNamesRow.holds Tryd.pinned (OpenSpec.ofChange addrNamesWrong)

/- THE SECOND FORM. 'bulk': how many values and letters a reading holds, each counted each time it is reached (what is shared counts as often as it is met; a slice's spare places count too). A statement '..UptoSaid' is the law's where the arguments, and the package variables that the reading takes, are together of bulk at most 1048576: NARROWER than '..Said'. Prove '..Said' where nothing that the law and all that it calls make is longer than what came in: it says more and counts as full. Else prove '..UptoSaid'. A law counts once. -/
mutual
def uptoBulk {H : Type} : DataW H → Nat
  | .lit (.string bytes) => bytes.length + 1
  | .lit _ => 1
  | .nil => 1
  | .ptr d => uptoBulk d + 1
  | .slice elems spare => uptoBulkAll elems + uptoBulkAll spare + 1
  | .agg parts => uptoBulkAll parts + 1
  | .iface _ d => uptoBulk d + 1
  | .map entries => uptoBulkEntries entries + 1
  | .held _ => 1
def uptoBulkAll {H : Type} : List (DataW H) → Nat
  | [] => 0
  | d :: r => uptoBulk d + uptoBulkAll r
def uptoBulkEntries {H : Type} : List (Lit × DataW H) → Nat
  | [] => 0
  | x :: r => uptoBulkEntry x + uptoBulkEntries r
def uptoBulkEntry {H : Type} : Lit × DataW H → Nat
  | (.string bytes, d) => bytes.length + uptoBulk d + 1
  | (_, d) => uptoBulk d + 1
 end
def uptoSmall : (H : Type) → List (DataW H) → Bool := fun _ ds => decide (uptoBulkAll ds ≤ 1048576)
def OpenSpec.upto (s : _root_.Go.ChangeSpec) : _root_.Go.OpenSpec := { _root_.Go.OpenSpec.ofChange s with cond := some uptoSmall }

/-- 'mailroomlaw04.AddrSame', WHERE WHAT IT READS IS OF BULK AT MOST 1048576: true; the input reads as it did. -/
def addrSameUptoRow : OpenClaim := { program := "ytlmifdkhdcbniaadoor", sum := "3bca5b03c3d335cb9e699269bf83b7a11a942c725ccd7745ad3433f4ecb71e4f", func := "mailroom/mailroomlaw04.AddrSame", spec := "addrSame", inPlace := ["internal/bytealg.IndexByteString", "internal/bytealg.IndexString"], unfollowed := true, recurses := true, named := ["mailroom/addr.kinds", "internal/bytealg.MaxLen"], apart := false, laid := [("mailroom/addr.kinds", laid_mailroom_addr_kinds)], narrowed := true }
def AddrSameUptoSaid : Prop := addrSameUptoRow.holds Tryd.pinned (OpenSpec.upto addrSameSpec)

/-- 'mailroomlaw04.AddrTells', WHERE WHAT IT READS IS OF BULK AT MOST 1048576: true; the input reads as it did. -/
def addrTellsUptoRow : OpenClaim := { program := "ytlmifdkhdcbniaadoor", sum := "3bca5b03c3d335cb9e699269bf83b7a11a942c725ccd7745ad3433f4ecb71e4f", func := "mailroom/mailroomlaw04.AddrTells", spec := "addrTells", inPlace := ["internal/bytealg.IndexByteString", "internal/bytealg.IndexString"], unfollowed := true, recurses := true, named := ["mailroom/addr.kinds", "internal/bytealg.MaxLen"], apart := false, laid := [("mailroom/addr.kinds", laid_mailroom_addr_kinds)], narrowed := true }
def AddrTellsUptoSaid : Prop := addrTellsUptoRow.holds Tryd.pinned (OpenSpec.upto addrTellsSpec)

/-- 'mailroomlaw04.AddrBack', WHERE WHAT IT READS IS OF BULK AT MOST 1048576: true; the input reads as it did. -/
def addrBackUptoRow : OpenClaim := { program := "ytlmifdkhdcbniaadoor", sum := "3bca5b03c3d335cb9e699269bf83b7a11a942c725ccd7745ad3433f4ecb71e4f", func := "mailroom/mailroomlaw04.AddrBack", spec := "addrBack", inPlace := ["internal/bytealg.IndexByteString", "internal/bytealg.IndexString"], unfollowed := true, recurses := true, named := ["mailroom/addr.kinds", "internal/bytealg.MaxLen"], apart := false, laid := [("mailroom/addr.kinds", laid_mailroom_addr_kinds)], narrowed := true }
def AddrBackUptoSaid : Prop := addrBackUptoRow.holds Tryd.pinned (OpenSpec.upto addrBackSpec)

/-- 'mailroomlaw04.AddrMails', WHERE WHAT IT READS IS OF BULK AT MOST 1048576: true; the input reads as it did. -/
def addrMailsUptoRow : OpenClaim := { program := "ytlmifdkhdcbniaadoor", sum := "3bca5b03c3d335cb9e699269bf83b7a11a942c725ccd7745ad3433f4ecb71e4f", func := "mailroom/mailroomlaw04.AddrMails", spec := "addrMails", inPlace := ["internal/bytealg.IndexByteString", "internal/bytealg.IndexString"], unfollowed := true, recurses := true, named := ["mailroom/addr.kinds", "internal/bytealg.MaxLen"], apart := false, laid := [("mailroom/addr.kinds", laid_mailroom_addr_kinds)], narrowed := true }
def AddrMailsUptoSaid : Prop := addrMailsUptoRow.holds Tryd.pinned (OpenSpec.upto addrMailsSpec)

/-- 'mailroomlaw04.AddrLess', WHERE WHAT IT READS IS OF BULK AT MOST 1048576: true; the input reads as it did. -/
def addrLessUptoRow : OpenClaim := { program := "ytlmifdkhdcbniaadoor", sum := "3bca5b03c3d335cb9e699269bf83b7a11a942c725ccd7745ad3433f4ecb71e4f", func := "mailroom/mailroomlaw04.AddrLess", spec := "addrLess", inPlace := ["internal/bytealg.IndexByteString", "internal/bytealg.IndexString"], unfollowed := true, recurses := true, named := ["mailroom/addr.kinds", "internal/bytealg.MaxLen"], apart := false, laid := [("mailroom/addr.kinds", laid_mailroom_addr_kinds)], narrowed := true }
def AddrLessUptoSaid : Prop := addrLessUptoRow.holds Tryd.pinned (OpenSpec.upto addrLessSpec)

/-- 'mailroomlaw04.AddrNames', WHERE WHAT IT READS IS OF BULK AT MOST 1048576: true; the input reads as it did. -/
def addrNamesUptoRow : OpenClaim := { program := "ytlmifdkhdcbniaadoor", sum := "3bca5b03c3d335cb9e699269bf83b7a11a942c725ccd7745ad3433f4ecb71e4f", func := "mailroom/mailroomlaw04.AddrNames", spec := "addrNames", inPlace := ["internal/bytealg.IndexByteString", "internal/bytealg.IndexString"], unfollowed := true, recurses := true, named := ["mailroom/addr.kinds", "internal/bytealg.MaxLen"], apart := false, laid := [("mailroom/addr.kinds", laid_mailroom_addr_kinds)], narrowed := true }
def AddrNamesUptoSaid : Prop := addrNamesUptoRow.holds Tryd.pinned (OpenSpec.upto addrNamesSpec)

end Rows
end Go.Proofs.YtlmifdkhdcbniaaDoor
