/- addr: May, Show, Same, Path, Unpath. -/
import Derived.Test.YtehkdbgoeakgbaaDoorAdD
namespace Go.Proofs.YtehkdbgoeakgbaaDoor
set_option linter.all false
open Go.RowKit

theorem parse_cases (s : List UInt8) : (parseB s = true ∧ parseV s = .tuple #[.string ⟨(locL s).toArray⟩, .string ⟨(domL s).toArray⟩, .int .i64 0]) ∨ (parseB s = false ∧ parseV s = .tuple #[.string ⟨#[]⟩, .string ⟨#[]⟩, .int .i64 4]) := by
  cases h : parseB s
  · exact .inr ⟨rfl, parseV_false h⟩
  · exact .inl ⟨rfl, parseV_true h⟩
theorem amay_own {w0 w : World} {L : List Piece} (K : Kinds w0) (O : Own w0 w L) (s : List UInt8) (hs : s.length ≤ 100000000) :
    Calls Tryd.prog 44 #[.string ⟨s.toArray⟩] w fun e w' => e = .returned (.bool (parseB s)) ∧ Own w0 w' L := by
  have P := parse_own K O s hs
  go_enter Tryd.func44, Tryd.ntmps44
  go_wp2_with fail
  refine P.mono ?_
  clear P O
  rintro e w1 ⟨rfl, O⟩
  rcases parse_cases s with ⟨e1, e2⟩ | ⟨e1, e2⟩
  · have E1 := Lib.hid e1
    rw [e2]
    clear e1 e2
    go_wp2
    go_ret
    rw [E1.out]; exact ⟨rfl, O⟩
  · have E1 := Lib.hid e1
    rw [e2]
    clear e1 e2
    go_wp2
    go_ret
    rw [E1.out]; exact ⟨rfl, O⟩
def showB (l d : List UInt8) : Bool := parseB (l ++ 64 :: d) && ((locL (l ++ 64 :: d) == l) && (domL (l ++ 64 :: d) == d))
def showL (l d : List UInt8) : List UInt8 := bif showB l d then l ++ 64 :: d else []
theorem show_yes {l d : List UInt8} (h : showB l d = true) : showL l d = l ++ 64 :: d := by unfold showL; rw [h]; rfl
theorem show_no {l d : List UInt8} (h : showB l d = false) : showL l d = [] := by unfold showL; rw [h]; rfl
theorem pathL_no {s : List UInt8} (h1 : s.isEmpty = false) (h2 : parseB s = false) : pathL s = [] := by unfold pathL; rw [h1, h2]; rfl
theorem pathL_emp {s : List UInt8} (h1 : s.isEmpty = true) : pathL s = 60 :: s ++ [62] := by unfold pathL; rw [h1]; rfl
theorem pathL_yes {s : List UInt8} (h2 : parseB s = true) : pathL s = 60 :: s ++ [62] := by unfold pathL; rw [h2, Bool.or_true]; rfl
theorem path_own {w0 w : World} {L : List Piece} (K : Kinds w0) (O : Own w0 w L) (s : List UInt8) (hs : s.length ≤ 100000000) :
    Calls Tryd.prog 35 #[.string ⟨s.toArray⟩] w fun e w' => e = .returned (.string ⟨(pathL s).toArray⟩) ∧ Own w0 w' L := by
  have M := amay_own K O s hs
  rcases Bool.eq_false_or_eq_true s.isEmpty with q1 | q1
  · have R := Lib.hid (pathL_emp q1)
    have q2 : (!s.isEmpty) = false := by rw [q1]; rfl
    clear M
    go_enter Tryd.func35, Tryd.ntmps35
    go_wp2
    go_ret
    rw [R.out]; exact ⟨rfl, O⟩
  · have q2 : (!s.isEmpty) = true := by rw [q1]; rfl
    rcases Bool.eq_false_or_eq_true (parseB s) with p1 | p1
    · have R := Lib.hid (pathL_yes p1)
      rw [p1] at M
      go_enter Tryd.func35, Tryd.ntmps35
      go_wp2_with fail
      refine M.mono ?_
      clear M O
      rintro e w1 ⟨rfl, O⟩
      go_wp2
      go_ret
      rw [R.out]; exact ⟨rfl, O⟩
    · have R := Lib.hid (pathL_no q1 p1)
      rw [p1] at M
      go_enter Tryd.func35, Tryd.ntmps35
      go_wp2_with fail
      refine M.mono ?_
      clear M O
      rintro e w1 ⟨rfl, O⟩
      go_wp2
      go_ret
      rw [R.out]; exact ⟨rfl, O⟩

/-- what a path has within, and whether it is one -/
def unL (s : List UInt8) : List UInt8 := (cutSuf 62 (cutPre 60 s).1).1
def unB (s : List UInt8) : Bool := (cutPre 60 s).2 && ((cutSuf 62 (cutPre 60 s).1).2 && ((unL s).isEmpty || parseB (unL s)))
def unV (s : List UInt8) : Value := bif unB s then .tuple #[.string ⟨(unL s).toArray⟩, .int .i64 0] else .tuple #[.string ⟨#[]⟩, .int .i64 4]
theorem unV_no {s : List UInt8} (h : unB s = false) : unV s = .tuple #[.string ⟨#[]⟩, .int .i64 4] := by unfold unV; rw [h]; rfl
theorem unV_yes {s : List UInt8} (h : unB s = true) : unV s = .tuple #[.string ⟨(unL s).toArray⟩, .int .i64 0] := by unfold unV; rw [h]; rfl
theorem pathL_is (s : List UInt8) : (pathL s == []) = !(s.isEmpty || parseB s) := by
  unfold pathL; cases (s.isEmpty || parseB s) <;> rfl
set_option maxHeartbeats 1000000 in
theorem unpath_own {w0 w : World} {L : List Piece} (K : Kinds w0) (O : Own w0 w L) (s : List UInt8) (hs : s.length ≤ 100000000) :
    Calls Tryd.prog 52 #[.string ⟨s.toArray⟩] w fun e w' => e = .returned (unV s) ∧ Own w0 w' L := by
  have UB : Hid (unB s = ((cutPre 60 s).2 && ((cutSuf 62 (cutPre 60 s).1).2 && ((unL s).isEmpty || parseB (unL s))))) := rfl
  have HU : Hid (unL s = (cutSuf 62 (cutPre 60 s).1).1) := rfl
  have HY := fun h => Lib.hid (unV_yes (s := s) h)
  have HN := fun h => Lib.hid (unV_no (s := s) h)
  obtain ⟨r, hr⟩ : ∃ r, r = unV s := ⟨_, rfl⟩
  rw [← hr] at HY HN ⊢
  clear hr
  generalize unB s = b at UB HY HN
  have l1 := cutPre_le 60 s
  have l2 := cutSuf_le 62 (cutPre 60 s).1
  have C1 := cutPre_at s w 60
  have C2 := cutSuf_at (cutPre 60 s).1 w 62 (by omega)
  rw [← HU.out] at l2 C2
  generalize (cutSuf 62 (cutPre 60 s).1).2 = b2 at UB C2
  generalize (cutPre 60 s).2 = b1 at UB C1
  generalize (cutPre 60 s).1 = t1 at l1 l2 C1 C2
  generalize unL s = t2 at UB HY l2 C2
  have PT := path_own K O t2 (by omega)
  clear l1 l2 HU
  go_enter Tryd.func52, Tryd.ntmps52
  go_wp2_with fail
  refine C1.mono ?_
  rintro e w1 ⟨rfl, rfl⟩
  go_wp2_with fail
  refine C2.mono ?_
  rintro e w1 ⟨rfl, rfl⟩
  clear C1 C2
  cases b1
  · have R := HN UB.out
    clear UB HN HY
    go_wp2
    go_returns
    exact ⟨congrArg Ending.returned R.out.symm, O⟩
  cases b2
  · have R := HN UB.out
    clear UB HN HY
    go_wp2
    go_returns
    exact ⟨congrArg Ending.returned R.out.symm, O⟩
  go_wp2_with fail
  refine PT.mono ?_
  clear PT O
  rintro e w1 ⟨rfl, O⟩
  have E := pathL_is t2
  obtain ⟨q, hq⟩ : ∃ q, q = (t2.isEmpty || parseB t2) := ⟨_, rfl⟩
  rw [← hq] at E UB
  clear hq
  generalize pathL t2 = p at E ⊢
  have UB2 : b = q := UB.out
  cases q
  · have R := HN UB2
    have E2 : p = [] := by simpa using E
    subst E2
    clear UB UB2 HN HY
    go_wp2
    go_returns
    exact ⟨congrArg Ending.returned R.out.symm, O⟩
  · have R := HY UB2
    have E2 : p.isEmpty = false := by cases p with
      | nil => simp at E
      | cons _ _ => rfl
    clear UB UB2 HN HY
    go_wp2
    go_returns
    exact ⟨congrArg Ending.returned R.out.symm, O⟩
end Go.Proofs.YtehkdbgoeakgbaaDoor
