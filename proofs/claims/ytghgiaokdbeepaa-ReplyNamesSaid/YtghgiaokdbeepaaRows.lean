/-
  No cell of these rows narrows 'for every input' (looked for: loops, veiled, ifaces, maps, wideKeys, modest, calm, conditions, laid).
  DERIVED. THE GIVEN ROWS OF THIS SEAT. 6 by the template 'for every input the law returns true; each argument reads behind the call as it read before'; 0 by the template 'total and deterministic' (their statements: YtghgiaokdbeepaaTotals.lean).
  GIVEN WITH THE SEED: the statements are not yours to turn. If you find one false, say at which input.
  Laid BY PROGRAM, IN A SANDBOX (cutbox-rows.mjs): the forced cells as the released guide's own fill.sh prints them over the translation e91c0cea0fb6f855… (all of the seat's roots in one cut). By AI agents, Wed Nov 11 2026. No macro, syntax, notation, axiom, sorry.
-/
import Derived.Test.YtghgiaokdbeepaaChecked
import GoSem.Claim
import GoSem.ClaimJoined
import GoSem.ClaimMapViews
import Derived.JoinedTies
import Derived.KernelRfl
namespace Go.Proofs.Ytghgiaokdbeepaa
/- THE CELL 'sum', in the pinned program and in every row, IS THE sha256 OF THE DUMP (.gsa) THAT YtghgiaokdbeepaaProg.lean LOADS. Nothing in Lean hashes anything: it is a label: what it is worth is what the hold of that sum in a sandbox is worth. -/
noncomputable def Try.pinned : Pinned := { name := "ytghgiaokdbeepaa", sum := "e91c0cea0fb6f855581082b6ea83eefa285f5906cccae8734335f563cdc1754a", checked := Try.checked }
namespace Rows
def none {H : Type} : Left H := { results := [], args := [] }

/-- 'mailroomlaw05.ReplyClass': WHATEVER THE INPUT: true; the input reads as it did. -/
def replyClassSpec : ChangeSpec := { name := "replyClass", fn := fun _ => fun
  | [d1, d2] => { results := [.lit (.bool true)], args := [d1, d2] }
  | _ => none }
def replyClassRow : OpenClaim := { program := "ytghgiaokdbeepaa", sum := "e91c0cea0fb6f855581082b6ea83eefa285f5906cccae8734335f563cdc1754a", func := "mailroom/mailroomlaw05.ReplyClass", spec := "replyClass", unfollowed := true, recurses := true, apart := false }
def ReplyClassSaid : Prop := replyClassRow.holds Try.pinned (OpenSpec.ofChange replyClassSpec)

/-- ITS FALSE NEIGHBOUR: 'it returns false'. Refute it at one input. -/
def replyClassWrong : ChangeSpec := { name := "replyClass", fn := fun _ => fun
  | [d1, d2] => { results := [.lit (.bool false)], args := [d1, d2] }
  | _ => none }
def ReplyClassWrongFalsely : Prop := replyClassRow.holds Try.pinned (OpenSpec.ofChange replyClassWrong)

/-- 'mailroomlaw05.ReplyBack': WHATEVER THE INPUT: true; the input reads as it did. -/
def replyBackSpec : ChangeSpec := { name := "replyBack", fn := fun _ => fun
  | [d1, d2] => { results := [.lit (.bool true)], args := [d1, d2] }
  | _ => none }
def replyBackRow : OpenClaim := { program := "ytghgiaokdbeepaa", sum := "e91c0cea0fb6f855581082b6ea83eefa285f5906cccae8734335f563cdc1754a", func := "mailroom/mailroomlaw05.ReplyBack", spec := "replyBack", unfollowed := true, recurses := true, apart := false }
def ReplyBackSaid : Prop := replyBackRow.holds Try.pinned (OpenSpec.ofChange replyBackSpec)

/-- ITS FALSE NEIGHBOUR: 'it returns false'. Refute it at one input. -/
def replyBackWrong : ChangeSpec := { name := "replyBack", fn := fun _ => fun
  | [d1, d2] => { results := [.lit (.bool false)], args := [d1, d2] }
  | _ => none }
def ReplyBackWrongFalsely : Prop := replyBackRow.holds Try.pinned (OpenSpec.ofChange replyBackWrong)

/-- 'mailroomlaw05.ReplyPlays': WHATEVER THE INPUT: true; the input reads as it did. -/
def replyPlaysSpec : ChangeSpec := { name := "replyPlays", fn := fun _ => fun
  | [d1, d2] => { results := [.lit (.bool true)], args := [d1, d2] }
  | _ => none }
def replyPlaysRow : OpenClaim := { program := "ytghgiaokdbeepaa", sum := "e91c0cea0fb6f855581082b6ea83eefa285f5906cccae8734335f563cdc1754a", func := "mailroom/mailroomlaw05.ReplyPlays", spec := "replyPlays", unfollowed := true, recurses := true, apart := false }
def ReplyPlaysSaid : Prop := replyPlaysRow.holds Try.pinned (OpenSpec.ofChange replyPlaysSpec)

/-- ITS FALSE NEIGHBOUR: 'it returns false'. Refute it at one input. -/
def replyPlaysWrong : ChangeSpec := { name := "replyPlays", fn := fun _ => fun
  | [d1, d2] => { results := [.lit (.bool false)], args := [d1, d2] }
  | _ => none }
def ReplyPlaysWrongFalsely : Prop := replyPlaysRow.holds Try.pinned (OpenSpec.ofChange replyPlaysWrong)

/-- 'mailroomlaw05.ReplySteps': WHATEVER THE INPUT: true; the input reads as it did. -/
def replyStepsSpec : ChangeSpec := { name := "replySteps", fn := fun _ => fun
  | [d] => { results := [.lit (.bool true)], args := [d] }
  | _ => none }
def replyStepsRow : OpenClaim := { program := "ytghgiaokdbeepaa", sum := "e91c0cea0fb6f855581082b6ea83eefa285f5906cccae8734335f563cdc1754a", func := "mailroom/mailroomlaw05.ReplySteps", spec := "replySteps", unfollowed := true, recurses := true, apart := false }
def ReplyStepsSaid : Prop := replyStepsRow.holds Try.pinned (OpenSpec.ofChange replyStepsSpec)

/-- ITS FALSE NEIGHBOUR: 'it returns false'. Refute it at one input. -/
def replyStepsWrong : ChangeSpec := { name := "replySteps", fn := fun _ => fun
  | [d] => { results := [.lit (.bool false)], args := [d] }
  | _ => none }
def ReplyStepsWrongFalsely : Prop := replyStepsRow.holds Try.pinned (OpenSpec.ofChange replyStepsWrong)

/-- 'mailroomlaw05.ReplyTells': WHATEVER THE INPUT: true; the input reads as it did. -/
def replyTellsSpec : ChangeSpec := { name := "replyTells", fn := fun _ => fun
  | [d1, d2, d3, d4] => { results := [.lit (.bool true)], args := [d1, d2, d3, d4] }
  | _ => none }
def replyTellsRow : OpenClaim := { program := "ytghgiaokdbeepaa", sum := "e91c0cea0fb6f855581082b6ea83eefa285f5906cccae8734335f563cdc1754a", func := "mailroom/mailroomlaw05.ReplyTells", spec := "replyTells", unfollowed := true, recurses := true, apart := false }
def ReplyTellsSaid : Prop := replyTellsRow.holds Try.pinned (OpenSpec.ofChange replyTellsSpec)

/-- ITS FALSE NEIGHBOUR: 'it returns false'. Refute it at one input. -/
def replyTellsWrong : ChangeSpec := { name := "replyTells", fn := fun _ => fun
  | [d1, d2, d3, d4] => { results := [.lit (.bool false)], args := [d1, d2, d3, d4] }
  | _ => none }
def ReplyTellsWrongFalsely : Prop := replyTellsRow.holds Try.pinned (OpenSpec.ofChange replyTellsWrong)

/-- 'mailroomlaw05.ReplyNames': WHATEVER THE INPUT: true; the input reads as it did. -/
def replyNamesSpec : ChangeSpec := { name := "replyNames", fn := fun _ => fun
  | [] => { results := [.lit (.bool true)], args := [] }
  | _ => none }
def replyNamesRow : OpenClaim := { program := "ytghgiaokdbeepaa", sum := "e91c0cea0fb6f855581082b6ea83eefa285f5906cccae8734335f563cdc1754a", func := "mailroom/mailroomlaw05.ReplyNames", spec := "replyNames", unfollowed := true, recurses := true, apart := false }
def ReplyNamesSaid : Prop := replyNamesRow.holds Try.pinned (OpenSpec.ofChange replyNamesSpec)

/-- ITS FALSE NEIGHBOUR: 'it returns false'. Refute it at one input. -/
def replyNamesWrong : ChangeSpec := { name := "replyNames", fn := fun _ => fun
  | [] => { results := [.lit (.bool false)], args := [] }
  | _ => none }
def ReplyNamesWrongFalsely : Prop := replyNamesRow.holds Try.pinned (OpenSpec.ofChange replyNamesWrong)

/- THE SECOND FORM. 'bulk': how many values and letters a reading holds, each counted each time it is reached (what is shared counts as often as it is met; a slice's spare places count too). A statement '..UptoSaid' is the law's where the arguments, and the package variables that the reading takes, are together of bulk at most 1048576: NARROWER than '..Said'. Prove '..Said' where nothing that the law and all that it calls make is longer than what came in: it says more and counts as full. Else prove '..UptoSaid'. A law counts once. -/
mutual
def uptoBulk {H : Type} : DataW H → Nat
  | .lit (.string bytes) => bytes.length + 1
  | .lit _ => 1
  | .nil => 1
  | .ptr d => uptoBulk d + 1
  | .slice elems spare => uptoBulkAll elems + uptoBulkAll spare + 1
  | .agg parts => uptoBulkAll parts + 1
  | .iface _ d => uptoBulk d + 1
  | .map entries => uptoBulkEntries entries + 1
  | .held _ => 1
def uptoBulkAll {H : Type} : List (DataW H) → Nat
  | [] => 0
  | d :: r => uptoBulk d + uptoBulkAll r
def uptoBulkEntries {H : Type} : List (Lit × DataW H) → Nat
  | [] => 0
  | x :: r => uptoBulkEntry x + uptoBulkEntries r
def uptoBulkEntry {H : Type} : Lit × DataW H → Nat
  | (.string bytes, d) => bytes.length + uptoBulk d + 1
  | (_, d) => uptoBulk d + 1
 end
def uptoSmall : (H : Type) → List (DataW H) → Bool := fun _ ds => decide (uptoBulkAll ds ≤ 1048576)
def OpenSpec.upto (s : _root_.Go.ChangeSpec) : _root_.Go.OpenSpec := { _root_.Go.OpenSpec.ofChange s with cond := some uptoSmall }

/-- 'mailroomlaw05.ReplyClass', WHERE WHAT IT READS IS OF BULK AT MOST 1048576: true; the input reads as it did. -/
def replyClassUptoRow : OpenClaim := { program := "ytghgiaokdbeepaa", sum := "e91c0cea0fb6f855581082b6ea83eefa285f5906cccae8734335f563cdc1754a", func := "mailroom/mailroomlaw05.ReplyClass", spec := "replyClass", unfollowed := true, recurses := true, apart := false, narrowed := true }
def ReplyClassUptoSaid : Prop := replyClassUptoRow.holds Try.pinned (OpenSpec.upto replyClassSpec)

/-- 'mailroomlaw05.ReplyBack', WHERE WHAT IT READS IS OF BULK AT MOST 1048576: true; the input reads as it did. -/
def replyBackUptoRow : OpenClaim := { program := "ytghgiaokdbeepaa", sum := "e91c0cea0fb6f855581082b6ea83eefa285f5906cccae8734335f563cdc1754a", func := "mailroom/mailroomlaw05.ReplyBack", spec := "replyBack", unfollowed := true, recurses := true, apart := false, narrowed := true }
def ReplyBackUptoSaid : Prop := replyBackUptoRow.holds Try.pinned (OpenSpec.upto replyBackSpec)

/-- 'mailroomlaw05.ReplyPlays', WHERE WHAT IT READS IS OF BULK AT MOST 1048576: true; the input reads as it did. -/
def replyPlaysUptoRow : OpenClaim := { program := "ytghgiaokdbeepaa", sum := "e91c0cea0fb6f855581082b6ea83eefa285f5906cccae8734335f563cdc1754a", func := "mailroom/mailroomlaw05.ReplyPlays", spec := "replyPlays", unfollowed := true, recurses := true, apart := false, narrowed := true }
def ReplyPlaysUptoSaid : Prop := replyPlaysUptoRow.holds Try.pinned (OpenSpec.upto replyPlaysSpec)

/-- 'mailroomlaw05.ReplySteps', WHERE WHAT IT READS IS OF BULK AT MOST 1048576: true; the input reads as it did. -/
def replyStepsUptoRow : OpenClaim := { program := "ytghgiaokdbeepaa", sum := "e91c0cea0fb6f855581082b6ea83eefa285f5906cccae8734335f563cdc1754a", func := "mailroom/mailroomlaw05.ReplySteps", spec := "replySteps", unfollowed := true, recurses := true, apart := false, narrowed := true }
def ReplyStepsUptoSaid : Prop := replyStepsUptoRow.holds Try.pinned (OpenSpec.upto replyStepsSpec)

/-- 'mailroomlaw05.ReplyTells', WHERE WHAT IT READS IS OF BULK AT MOST 1048576: true; the input reads as it did. -/
def replyTellsUptoRow : OpenClaim := { program := "ytghgiaokdbeepaa", sum := "e91c0cea0fb6f855581082b6ea83eefa285f5906cccae8734335f563cdc1754a", func := "mailroom/mailroomlaw05.ReplyTells", spec := "replyTells", unfollowed := true, recurses := true, apart := false, narrowed := true }
def ReplyTellsUptoSaid : Prop := replyTellsUptoRow.holds Try.pinned (OpenSpec.upto replyTellsSpec)

/-- 'mailroomlaw05.ReplyNames', WHERE WHAT IT READS IS OF BULK AT MOST 1048576: true; the input reads as it did. -/
def replyNamesUptoRow : OpenClaim := { program := "ytghgiaokdbeepaa", sum := "e91c0cea0fb6f855581082b6ea83eefa285f5906cccae8734335f563cdc1754a", func := "mailroom/mailroomlaw05.ReplyNames", spec := "replyNames", unfollowed := true, recurses := true, apart := false, narrowed := true }
def ReplyNamesUptoSaid : Prop := replyNamesUptoRow.holds Try.pinned (OpenSpec.upto replyNamesSpec)

end Rows
end Go.Proofs.Ytghgiaokdbeepaa
