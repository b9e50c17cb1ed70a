/- line: what Feed tells, bounded; New, at any most. -/
import Derived.Test.YtkgfdmfkmcbecaaLineF
namespace Go.Proofs.Ytkgfdmfkmcbecaa
set_option linter.all false
open Go.RowKit Go.Shelf

theorem feed_bound (f : Fr) (s : List UInt8) : (feedL f s).1.length ≤ f.left.length + s.length ∧ (feedL f s).2.2.left.length ≤ f.left.length + s.length ∧ (feedL f s).2.2.most = f.most := by
  have h1 := cutL_len (f.left ++ s)
  have h2 := congrArg List.length (cutL_join (f.left ++ s)).1
  have h3 := (List.takeWhile_prefix (fits f.most) (l := (cutL (f.left ++ s)).1)).length_le
  rw [List.length_append] at h1 h2
  rw [List.length_append] at h2
  unfold feedL
  split
  · simp
  · split
    · exact ⟨by simpa using Nat.le_trans h3 h1, by simp, rfl⟩
    · split
      · exact ⟨h1, by simp, rfl⟩
      · exact ⟨h1, by show (cutL (f.left ++ s)).2.length ≤ _; omega, rfl⟩
@[go_sem] theorem Fr.zero_dead (n : Int) : (Fr.zero n).dead = false := rfl
@[go_sem] theorem Fr.zero_left (n : Int) : (Fr.zero n).left = [] := rfl
@[go_sem] theorem Fr.zero_most (n : Int) : (Fr.zero n).most = n := rfl
theorem Fr.zero_len (n : Int) : (Fr.zero n).left.length ≤ 10000000 := by simp [Fr.zero]
theorem fr_bool (a : Bool) : (a == a) = true := by simp
theorem fr_int (a : Int) : (a == a) = true := by simp
theorem fr_str (a : List UInt8) : (a == a) = true := by simp
theorem frn_bool (a : Bool) : (a != a) = false := by simp
theorem frn_int (a : Int) : (a != a) = false := by simp
theorem frn_str (a : List UInt8) : (a != a) = false := by simp
end Go.Proofs.Ytkgfdmfkmcbecaa
