/- addr, in plain: what an address is. -/
import Derived.Test.YtehkdbgoeakgbaaDoorAdFold
namespace Go.Proofs.YtehkdbgoeakgbaaDoor
set_option linter.all false
open Go.RowKit

def signsL : List UInt8 := [33, 35, 36, 37, 38, 39, 42, 43, 45, 47, 61, 63, 94, 95, 123, 124, 125, 126, 96]
def letterB (c : UInt8) : Bool := decide (97 ≤ c.toNat ∧ c.toNat ≤ 122) || (decide (65 ≤ c.toNat ∧ c.toNat ≤ 90) || decide (48 ≤ c.toNat ∧ c.toNat ≤ 57))
/-- a test of bytes that keeps a bool: is this one right, and what is kept -/
def eachRun (f : Bool → UInt8 → Bool × Bool) : Bool → List UInt8 → Bool × Bool
  | st, [] => (true, st)
  | st, c :: r => bif (f st c).1 then eachRun f (f st c).2 r else (false, (f st c).2)
def stepA (dot : Bool) (c : UInt8) : Bool × Bool := ((c == 46) && !dot || !(c == 46) && (letterB c || signsL.contains c), c == 46)
def stepQ (marked : Bool) (c : UInt8) : Bool × Bool := (decide (32 ≤ c.toNat ∧ c.toNat ≤ 126) && (marked || !(c == 34)), (c == 92) && !marked)
def atomsB (s : List UInt8) : Bool := (eachRun stepA true s).1 && !(eachRun stepA true s).2
/-- a text without a first byte, a last byte -/
def cutPre (p : UInt8) (s : List UInt8) : List UInt8 × Bool := match s with
  | c :: r => if c = p then (r, true) else (s, false)
  | [] => ([], false)
def cutSuf (p : UInt8) (s : List UInt8) : List UInt8 × Bool := if s.getLast? = some p then (s.dropLast, true) else (s, false)
def quotedB (s : List UInt8) : Bool :=
  (cutPre 34 s).2 && ((cutSuf 34 (cutPre 34 s).1).2 && ((eachRun stepQ false (cutSuf 34 (cutPre 34 s).1).1).1 && !(eachRun stepQ false (cutSuf 34 (cutPre 34 s).1).1).2))
/-- the place of the last @, and one more; 0: there is none -/
def lastAt : List UInt8 → Nat
  | [] => 0
  | c :: r => bif Nat.beq (lastAt r) 0 then (if c = 64 then 1 else 0) else lastAt r + 1
theorem lastAt_le : ∀ (s : List UInt8), lastAt s ≤ s.length
  | [] => by simp [lastAt]
  | c :: r => by
    have h := lastAt_le r
    unfold lastAt
    cases e : Nat.beq (lastAt r) 0
    · simp; omega
    · simp; split <;> omega
def locOk (s : List UInt8) : Bool := decide (2 ≤ lastAt s ∧ lastAt s ≤ 65) && (!(s.getLast? == some 46) && (atomsB (s.take (lastAt s - 1)) || quotedB (s.take (lastAt s - 1))))
def parseB (s : List UInt8) : Bool := locOk s && may (folded (s.drop (lastAt s)))
def locL (s : List UInt8) : List UInt8 := s.take (lastAt s - 1)
def domL (s : List UInt8) : List UInt8 := folded (s.drop (lastAt s))
def parseV (s : List UInt8) : Value := bif parseB s then .tuple #[.string ⟨(locL s).toArray⟩, .string ⟨(domL s).toArray⟩, .int .i64 0] else .tuple #[.string ⟨#[]⟩, .string ⟨#[]⟩, .int .i64 4]
theorem parseV_true {s : List UInt8} (h : parseB s = true) : parseV s = .tuple #[.string ⟨(locL s).toArray⟩, .string ⟨(domL s).toArray⟩, .int .i64 0] := by unfold parseV; rw [h]; rfl
theorem parseV_false {s : List UInt8} (h : parseB s = false) : parseV s = .tuple #[.string ⟨#[]⟩, .string ⟨#[]⟩, .int .i64 4] := by unfold parseV; rw [h]; rfl
def sameB (a b : List UInt8) : Bool := parseB a && (parseB b && ((locL a == locL b) && (domL a == domL b)))
def pathL (s : List UInt8) : List UInt8 := bif (s.isEmpty || parseB s) then 60 :: s ++ [62] else []
end Go.Proofs.YtehkdbgoeakgbaaDoor
