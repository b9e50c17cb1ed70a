/- frame: Put and Split of whatever comes. -/
import Derived.Test.YtdfkjjopekceoaaDoorFmI
namespace Go.Proofs.YtdfkjjopekceoaaDoor
set_option linter.all false
open Go.RowKit

def putE (age place : Int) (s : List UInt8) : Int := bif mayB age place then (bif decide (s.length ≤ 112) then 0 else 40) else 1
def putX (age place : Int) (s : List UInt8) : List UInt8 := bif mayB age place then (bif decide (s.length ≤ 112) then putS age place s else []) else []
theorem put_any {w0 w : World} {L : List Piece} (O : Own w0 w L) (age place : Int) (s : List UInt8) :
    Calls Tryd.prog 18 #[.int .i64 age, .int .i64 place, .string ⟨s.toArray⟩] w fun e w' => e = .returned (.tuple #[.string ⟨(putX age place s).toArray⟩, .int .i64 (putE age place s)]) ∧ Own w0 w' L := by
  unfold putX putE
  cases hm : mayB age place with
  | false =>
    refine (put_bad O age place s hm).mono ?_
    rintro e w' ⟨rfl, rfl⟩
    exact ⟨rfl, O⟩
  | true =>
    by_cases hs : s.length ≤ 112
    · rw [decide_eq_true hs]
      exact put11_own O age place s hm hs
    · rw [decide_eq_false hs]
      refine (put_long age place s hm (by omega) w).mono ?_
      rintro e w' ⟨rfl, rfl⟩
      exact ⟨rfl, O⟩
theorem putE_zero {age place : Int} {s : List UInt8} (h : putE age place s = 0) : mayB age place = true ∧ s.length ≤ 112 ∧ putX age place s = putS age place s := by
  unfold putE at h
  unfold putX
  cases hm : mayB age place with
  | false => rw [hm] at h; simp at h
  | true =>
    rw [hm] at h
    by_cases hs : s.length ≤ 112
    · rw [decide_eq_true hs]
      exact ⟨rfl, hs, rfl⟩
    · rw [decide_eq_false hs] at h
      simp at h
theorem putX_len (age place : Int) (s : List UInt8) : (putX age place s).length ≤ 128 := by
  unfold putX
  cases mayB age place with
  | false => simp
  | true =>
    by_cases hs : s.length ≤ 112
    · rw [decide_eq_true hs]
      simp [putS_len hs]
    · rw [decide_eq_false hs]
      simp
def splitE (age place : Int) (s : List UInt8) : Int := bif mayB age place then (bif decide ((manyN s.length : Int) ≤ 1024 - place) then 0 else 40) else 1
def splitX (age place : Int) (s : List UInt8) : List (List UInt8) := bif mayB age place then (bif decide ((manyN s.length : Int) ≤ 1024 - place) then splitL age place s else []) else []
def SplitEnd (w0 : World) (L : List Piece) (ss : List (List UInt8)) (E : Int) (e : Ending) (w' : World) : Prop := ∃ v, e = .returned (.tuple #[v, .int .i64 E]) ∧ Own w0 w' (strs v ss :: L)
theorem split_any {w0 w : World} {L : List Piece} (O : Own w0 w L) (age place : Int) (s : List UInt8) (hl : s.length ≤ 140737488351232) :
    Calls Tryd.prog 10 #[.int .i64 age, .int .i64 place, .string ⟨s.toArray⟩] w (SplitEnd w0 L (splitX age place s) (splitE age place s)) := by
  unfold splitX splitE
  cases hm : mayB age place with
  | false =>
    refine (split_bad age place s hm hl w).mono ?_
    rintro e w' ⟨rfl, rfl⟩
    exact ⟨_, rfl, O.nilStrs⟩
  | true =>
    by_cases hs : (manyN s.length : Int) ≤ 1024 - place
    · rw [decide_eq_true hs]
      refine (split_own O age place s hm hl hs).mono ?_
      rintro e w' ⟨v, rfl, O'⟩
      exact ⟨v, rfl, O'⟩
    · rw [decide_eq_false hs]
      refine (split_long age place s hm hl (by omega) w).mono ?_
      rintro e w' ⟨rfl, rfl⟩
      exact ⟨_, rfl, O.nilStrs⟩
theorem splitE_zero {age place : Int} {s : List UInt8} (h : splitE age place s = 0) : mayB age place = true ∧ (manyN s.length : Int) ≤ 1024 - place ∧ splitX age place s = splitL age place s := by
  unfold splitE at h
  unfold splitX
  cases hm : mayB age place with
  | false => rw [hm] at h; simp at h
  | true =>
    rw [hm] at h
    by_cases hs : (manyN s.length : Int) ≤ 1024 - place
    · rw [decide_eq_true hs]
      exact ⟨rfl, hs, rfl⟩
    · rw [decide_eq_false hs] at h
      simp at h
theorem splitX_nil {age place : Int} {s : List UInt8} (h : splitE age place s ≠ 0) : splitX age place s = [] := by
  unfold splitE at h
  unfold splitX
  cases hm : mayB age place with
  | false => rfl
  | true =>
    rw [hm] at h
    by_cases hs : (manyN s.length : Int) ≤ 1024 - place
    · rw [decide_eq_true hs] at h
      simp at h
    · rw [decide_eq_false hs]
      rfl
end Go.Proofs.YtdfkjjopekceoaaDoor
