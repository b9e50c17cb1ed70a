/- CmdTells, plain: what Parse tells, in one form. -/
import Derived.Test.YtehkdbgoeakgbaaGreatDoorCtF
import Derived.Test.YtehkdbgoeakgbaaGreatDoorCtO
import Derived.Test.YtehkdbgoeakgbaaGreatDoorCmLp
namespace Go.Proofs.YtehkdbgoeakgbaaGreatDoor
set_option linter.all false
open Go.RowKit Go.Shelf

/-- the command of a line, and the error -/
def resP (s : List UInt8) : Cm × Int := match parseCm s with
  | some c => if s.length ≤ 510 then (c, 0) else (⟨0, [], []⟩, 40)
  | none => (⟨0, [], []⟩, if s.length ≤ 510 then 4 else 40)
theorem ps_line (c : Cm) : c.ps.length ≤ (lineCm c).length := by
  have h : ∀ ps : List Pm, ps.length ≤ (ps.flatMap ptL).length := by
    intro ps
    induction ps with
    | nil => simp
    | cons p ps ih =>
      simp only [List.flatMap_cons, List.length_append, List.length_cons]
      have : 1 ≤ (ptL p).length := by unfold ptL; simp
      omega
  have h1 := h c.ps
  unfold lineCm
  simp only [List.length_append]
  omega
theorem resP_len (s : List UInt8) : (resP s).1.ps.length ≤ 510 := by
  unfold resP
  cases h : parseCm s with
  | none => simp
  | some c =>
    simp only
    split
    · have := (parse_back h).2.2
      have := ps_line c
      show c.ps.length ≤ 510
      omega
    · simp
theorem parse7_uni {w0 w : World} {L : List Piece} (K : Kinds w0) (O : Own w0 w L) (s : List UInt8) (hs : s.length ≤ 1000000) {c : Cm} {er : Int} (hr : resP s = (c, er)) :
    Calls Tryz.prog 16 #[.string ⟨s.toArray⟩] w fun e w' => ∃ a cap, e = .returned (.tuple #[cmV c a c.ps.length cap, .int .i64 er]) ∧ Own w0 w' (rowv 48 2 (.slice a c.ps.length cap) c.ps.length (flatP c.ps) :: L) := by
  refine (parse7_own K O s hs).mono ?_
  intro e w' h
  unfold ParsePost at h
  unfold resP at hr
  cases hc : parseCm s with
  | none =>
    rw [hc] at h hr
    simp only [Prod.mk.injEq] at h hr
    obtain ⟨rfl, rfl⟩ := hr
    obtain ⟨rfl, O2⟩ := h
    exact ⟨none, 0, rfl, O2.nilPm _⟩
  | some d =>
    rw [hc] at h hr
    simp only at h hr
    by_cases q : s.length ≤ 510
    · rw [if_pos q] at h hr
      simp only [Prod.mk.injEq] at hr
      obtain ⟨rfl, rfl⟩ := hr
      exact h
    · rw [if_neg q] at h hr
      simp only [Prod.mk.injEq] at hr
      obtain ⟨rfl, rfl⟩ := hr
      obtain ⟨rfl, O2⟩ := h
      exact ⟨none, 0, rfl, O2.nilPm _⟩
theorem rparse7_uni {w0 w : World} {L : List Piece} (O : Own w0 w L) (s : List UInt8) (hs : s.length ≤ 1000000) {c : Cm} {er : Int} (hr : resP s = (c, er)) :
    Calls Tryz.prog 17 #[.string ⟨s.toArray⟩] w fun e w' => ∃ a cap, e = .returned (.tuple #[cmV c a c.ps.length cap, .int .i64 er]) ∧ Own w0 w' (rowv 57 2 (.slice a c.ps.length cap) c.ps.length (flatP c.ps) :: L) := by
  refine (rparse7_own O s hs).mono ?_
  intro e w' h
  unfold RParsePost at h
  unfold resP at hr
  cases hc : parseCm s with
  | none =>
    rw [hc] at h hr
    simp only [Prod.mk.injEq] at h hr
    obtain ⟨rfl, rfl⟩ := hr
    obtain ⟨rfl, O2⟩ := h
    exact ⟨none, 0, rfl, O2.nilPm _⟩
  | some d =>
    rw [hc] at h hr
    simp only at h hr
    by_cases q : s.length ≤ 510
    · rw [if_pos q] at h hr
      simp only [Prod.mk.injEq] at hr
      obtain ⟨rfl, rfl⟩ := hr
      exact h
    · rw [if_neg q] at h hr
      simp only [Prod.mk.injEq] at hr
      obtain ⟨rfl, rfl⟩ := hr
      obtain ⟨rfl, O2⟩ := h
      exact ⟨none, 0, rfl, O2.nilPm _⟩
theorem showV7_form (c : Cm) : ∃ (t : List UInt8) (e : Int), showV7 c = .tuple #[.string ⟨t.toArray⟩, .int .i64 e] ∧ t.length ≤ 510 := by
  rcases show_three c with ⟨-, h2, h3⟩ | ⟨e, -, h3⟩
  · exact ⟨_, _, h3, h2⟩
  · exact ⟨[], e, h3, by simp⟩
theorem getV_form (o : Option (List UInt8)) : ∃ (t : List UInt8) (b : Bool), getV o = .tuple #[.string ⟨t.toArray⟩, .bool b] := by
  cases o with
  | none => exact ⟨[], false, rfl⟩
  | some x => exact ⟨x, true, rfl⟩
end Go.Proofs.YtehkdbgoeakgbaaGreatDoor
