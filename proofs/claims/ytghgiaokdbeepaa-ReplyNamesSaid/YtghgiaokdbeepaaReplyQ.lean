/- The reader's contracts, over what a call holds. -/
import Derived.Test.YtghgiaokdbeepaaReplyO
import Derived.Test.YtghgiaokdbeepaaHold
namespace Go.Proofs.Ytghgiaokdbeepaa
set_option linter.all false
open Go.RowKit

/-- a reader -/
def rd (p : Value) (m : Rd) : Piece where
  holds B w F := RdOf w B p m F
  keep := fun h hc hS => RdOf.keep h hc hS
  lt := fun h => RdOf.lt h

theorem line_own (l : List UInt8) (hs : l.length ≤ 1000000000) {w0 w : World} {L : List Piece} {p : Value} {m : Rd} (O : Own w0 w (rd p m :: L)) (hl : m.now.lines.length ≤ 1000000) :
    Calls Try.prog 13 #[p, .string ⟨l.toArray⟩] w fun e w' => e = .returned (doneV (m.line l).2) ∧ Own w0 w' (rd p (m.line l).1 :: L) := by
  obtain ⟨F, h, q⟩ := O.open
  refine (line_any l hs w w0.heap.size p m F h hl).mono ?_
  rintro e w' ⟨rfl, F', h4, h5, h6⟩
  exact ⟨rfl, q w' (rd p (m.line l).1) F' h4 h5 h6⟩
theorem new_own {w0 w : World} {L : List Piece} (O : Own w0 w L) :
    Calls Try.prog 12 #[] w fun e w' => ∃ a, e = .returned (.pointer (some a)) ∧ Own w0 w' (rd (.pointer (some a)) Rd.zero :: L) := by
  refine (new_any w w0.heap.size O.size).mono ?_
  rintro e w' ⟨p, F, rfl, h1, h2, h3, a, rfl⟩
  exact ⟨a, rfl, O.new h2 (rd _ Rd.zero) h1 h3⟩
theorem dead_own {w0 w : World} {L : List Piece} {p : Value} {m : Rd} (O : Own w0 w (rd p m :: L)) :
    Calls Try.prog 19 #[p] w fun e w' => e = .returned (.bool m.dead) ∧ w = w' := by
  obtain ⟨F, h, q⟩ := O.open
  exact dead_any w w0.heap.size p m F h
theorem reset_own {w0 w : World} {L : List Piece} {p : Value} {m : Rd} (O : Own w0 w (rd p m :: L)) :
    Calls Try.prog 25 #[p] w fun e w' => e = .returned (.tuple #[]) ∧ Own w0 w' (rd p Rd.zero :: L) := by
  obtain ⟨F, h, q⟩ := O.open
  refine (reset_any w w0.heap.size p m F h).mono ?_
  rintro e w' ⟨rfl, F', h4, h5, h6⟩
  exact ⟨rfl, q w' (rd p Rd.zero) F' h4 h5 (fun i hi => .inl (h6 i hi))⟩
/-- a reply, as it is handed on, in three cells -/
def repV (x : Rep) (s : Value) : Value := .agg #[.int .i64 x.code, .string ⟨x.status.toArray⟩, s]
def repB (x : Rep) (s : Value) : Array Value := #[.int .i64 x.code, .string ⟨x.status.toArray⟩, s]
theorem take_own {w0 w : World} {L : List Piece} {p : Value} {m : Rd} (O : Own w0 w (rd p m :: L)) :
    Calls Try.prog 16 #[p] w fun e w' => ∃ a cap, e = .returned (.tuple #[.agg #[.int .i64 m.taken.code, .string ⟨m.taken.status.toArray⟩, .slice a m.taken.lines.length cap], .bool m.has]) ∧
      Own w0 w' (strs (.slice a m.taken.lines.length cap) m.taken.lines :: rd p m.take :: L) := by
  obtain ⟨F, h, q⟩ := O.open2
  refine (take_any w w0.heap.size p m F h).mono ?_
  rintro e w' ⟨v, G, F', rfl, ⟨s, rfl, row, rfl⟩, h2, h3, h4, h5, h6⟩
  obtain ⟨a, cap, rfl⟩ := row_shape row
  exact ⟨a, cap, rfl, q w' (strs _ m.taken.lines) (rd p m.take) _ F' ⟨row, rfl⟩ h2 h3 (fun i hi => .inl (h5 i hi)) (fun i hi => .inl (h4 i hi)) h6⟩
theorem copy_own {w0 w : World} {L : List Piece} {p : Value} {m : Rd} (O : Own w0 w (rd p m :: L)) (h1 : m.now.lines.length ≤ 1000000) (h2 : m.last.lines.length ≤ 1000000) :
    Calls Try.prog 20 #[p] w fun e w' => ∃ a, e = .returned (.pointer (some a)) ∧ Own w0 w' (rd (.pointer (some a)) m :: rd p m :: L) := by
  obtain ⟨F, h, q⟩ := O.open
  refine (copy_any w w0.heap.size p m F h h1 h2).mono ?_
  rintro e w' ⟨a, F', rfl, h3, h4, h5⟩
  exact ⟨a, rfl, O.new h4 (rd _ m) h3 h5⟩
end Go.Proofs.Ytghgiaokdbeepaa
