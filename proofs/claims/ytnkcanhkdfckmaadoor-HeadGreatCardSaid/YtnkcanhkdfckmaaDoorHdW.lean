/- mailroomref09 Fields, plain: raw fields. -/
import Derived.Test.YtnkcanhkdfckmaaDoorHdV
namespace Go.Proofs.YtnkcanhkdfckmaaDoor
set_option linter.all false
open Go.RowKit

/-- the fields in the making -/
def rawF (pre : List Fd) (now : Option Fd) : List Fd := pre ++ now.toList
theorem contB_nil : contB [] = false := rfl
theorem contB_cons (c : UInt8) (l : List UInt8) : contB (c :: l) = blankB c := by
  unfold contB blankB
  simp only
  by_cases h1 : c = 32
  · subst h1; rfl
  · by_cases h2 : c = 9
    · subst h2; rfl
    · have e1 : (c == 32) = false := by simpa using h1
      have e2 : (c == 9) = false := by simpa using h2
      have f1 : (32 == c) = false := by simpa using fun h => h1 h.symm
      have f2 : (9 == c) = false := by simpa using fun h => h2 h.symm
      rw [e1, e2]
      simp [Lib.indexByte, f1, f2]
theorem colonN_zero {l : List UInt8} (h : colonN l = 0) : begB l = false := by
  cases hb : begB l with
  | false => rfl
  | true =>
    exfalso
    unfold colonN at h
    rw [if_pos hb] at h
    unfold begB namedB at hb
    rw [Bool.and_eq_true, Bool.and_eq_true] at hb
    have := hb.2.1
    rw [List.eq_nil_of_length_eq_zero h] at this
    cases this
theorem colonN_pos {l : List UInt8} (h : colonN l ≠ 0) : begB l = true ∧ colonN l < l.length ∧ begL l = (l.take (colonN l), l.drop (colonN l + 1)) := by
  have hb : begB l = true := by
    cases hb : begB l with
    | true => rfl
    | false => exact absurd (by unfold colonN; rw [hb]; rfl) h
  refine ⟨hb, ?_⟩
  have hc : colonN l = (begL l).1.length := by unfold colonN; rw [if_pos hb]
  rcases cut58 l with ⟨i, hi, _, _, e⟩ | ⟨_, e⟩
  · have hL : begL l = (l.take i, l.drop (i + 1)) := by unfold begL; rw [e]
    have : colonN l = i := by rw [hc, hL, List.length_take]; omega
    rw [this]
    exact ⟨hi, hL⟩
  · unfold begB at hb
    rw [e] at hb; cases hb
theorem fs_end (pre : List Fd) (now : Option Fd) : pre.map trimF ++ fs now [] = (rawF pre now).map trimF := by
  cases now <;> simp [rawF, fs]
theorem fs_stop (pre : List Fd) (now : Option Fd) {l : List UInt8} (ls : List (List UInt8)) (h1 : now = none ∨ contB l = false) (h2 : begB l = false) : pre.map trimF ++ fs now (l :: ls) = (rawF pre now).map trimF := by
  cases now with
  | none => simp [rawF, fs, h2]
  | some g => 
    rcases h1 with h1 | h1
    · cases h1
    · simp [rawF, fs, h1, h2]
theorem fs_cont (pre : List Fd) (g : Fd) {l : List UInt8} (ls : List (List UInt8)) (h1 : contB l = true) : pre.map trimF ++ fs (some g) (l :: ls) = pre.map trimF ++ fs (some (g.1, g.2 ++ l)) ls := by
  simp [fs, h1]
theorem fs_next (pre : List Fd) (now : Option Fd) {l : List UInt8} (ls : List (List UInt8)) (h1 : now = none ∨ contB l = false) (h2 : begB l = true) : pre.map trimF ++ fs now (l :: ls) = (rawF pre now).map trimF ++ fs (some (begL l)) ls := by
  cases now with
  | none => simp [rawF, fs, h2]
  | some g => 
    rcases h1 with h1 | h1
    · cases h1
    · simp [rawF, fs, h1, h2]
theorem flatF_sz (l : List Fd) : (flatF l).length = l.length * 2 := by
  induction l with
  | nil => rfl
  | cons a l ih => simp [flatF] at ih ⊢; omega
theorem flatF_vl : ∀ {l : List Fd} {i : Nat} (h : i < l.length), (flatF l)[i * 2 + 1]? = some (.string ⟨l[i].2.toArray⟩)
  | f :: l, 0, _ => by simp [flatF]
  | f :: l, i + 1, h => by
    have := flatF_vl (l := l) (i := i) (by simpa using h)
    rw [show (i + 1) * 2 + 1 = (i * 2 + 1) + 1 + 1 by omega]
    simpa [flatF] using this
theorem flatF_set : ∀ {l : List Fd} {i : Nat} (h : i < l.length) (x : List UInt8), (flatF l).set (i * 2 + 1) (.string ⟨x.toArray⟩) = flatF (l.set i (l[i].1, x))
  | f :: l, 0, _, x => by simp [flatF]
  | f :: l, i + 1, h, x => by
    have := flatF_set (l := l) (i := i) (by simpa using h) x
    rw [show (i + 1) * 2 + 1 = (i * 2 + 1) + 1 + 1 by omega]
    simpa [flatF] using this
end Go.Proofs.YtnkcanhkdfckmaaDoor
