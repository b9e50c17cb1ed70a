/- mailroomref07.params, plain. -/
import Derived.Test.YtehkdbgoeakgbaaGreatDoorCtB
import Derived.Test.YtehkdbgoeakgbaaGreatDoorCmR
namespace Go.Proofs.YtehkdbgoeakgbaaGreatDoor
set_option linter.all false
open Go.RowKit Go.Shelf

theorem word_le (s : List UInt8) : (wordOf s).length ≤ s.length := by
  unfold wordOf
  exact (List.takeWhile_sublist _).length_le
/-- the fuel does not matter -/
theorem parsePs_fuel : ∀ (n : Nat) (s : List UInt8), s.length ≤ n → parsePs n s = parsePs s.length s
  | n, [], _ => by cases n <;> simp [parsePs]
  | 0, c :: s, h => by simp at h
  | n + 1, c :: s, h => by
    have hl : s.length ≤ n := by simpa using h
    have hw := word_le s
    rw [parsePs, List.length_cons, parsePs]
    rw [parsePs_fuel n (s.drop (wordOf s).length) (by rw [List.length_drop]; omega), parsePs_fuel s.length (s.drop (wordOf s).length) (by rw [List.length_drop]; omega)]
/-- one word of the parameters -/
theorem parsePs_step (c : UInt8) (s : List UInt8) : parsePs (c :: s).length (c :: s) = if c = 32 ∧ pmOk (wordOf s) = true then (parsePs (s.drop (wordOf s).length).length (s.drop (wordOf s).length)).map (pmOf (wordOf s) :: ·) else none := by
  have hw := word_le s
  rw [List.length_cons, parsePs, parsePs_fuel s.length (s.drop (wordOf s).length) (by rw [List.length_drop]; omega)]
/-- parameters of the rest, behind those that are there -/
def restPs (s0 : List UInt8) (ps : List Pm) (r : List UInt8) : Prop := parsePs s0.length s0 = (parsePs r.length r).map (ps ++ ·)
theorem restPs_start (s : List UInt8) : restPs s [] s := by
  unfold restPs; cases parsePs s.length s <;> simp
theorem restPs_no {s0 : List UInt8} {ps : List Pm} {c : UInt8} {s : List UInt8} (h : restPs s0 ps (c :: s)) (hn : ¬ (c = 32 ∧ pmOk (wordOf s) = true)) : parsePs s0.length s0 = none := by
  unfold restPs at h; rw [h, parsePs_step, if_neg hn]; rfl
theorem restPs_next {s0 : List UInt8} {ps : List Pm} {s : List UInt8} (h : restPs s0 ps (32 :: s)) (hy : pmOk (wordOf s) = true) : restPs s0 (ps ++ [pmOf (wordOf s)]) (s.drop (wordOf s).length) := by
  unfold restPs at h ⊢
  rw [h, parsePs_step, if_pos ⟨rfl, hy⟩, Option.map_map]
  congr 1; funext l; simp
theorem restPs_end {s0 : List UInt8} {ps : List Pm} (h : restPs s0 ps []) : parsePs s0.length s0 = some ps := by
  unfold restPs at h; rw [h]; simp [parsePs]
theorem restPs_no' {s0 : List UInt8} {ps : List Pm} {r : List UInt8} (h : restPs s0 ps r) (h0 : 0 < r.length) (hn : ¬ (r[0] = 32 ∧ pmOk (wordOf (r.drop 1)) = true)) : parsePs s0.length s0 = none := by
  match r, h0 with
  | c :: t, _ => exact restPs_no h hn
theorem restPs_next' {s0 : List UInt8} {ps : List Pm} {r : List UInt8} (h : restPs s0 ps r) (h0 : 0 < r.length) (h32 : r[0] = 32) (hy : pmOk (wordOf (r.drop 1)) = true) : restPs s0 (ps ++ [pmOf (wordOf (r.drop 1))]) (r.drop (1 + (wordOf (r.drop 1)).length)) := by
  match r, h0 with
  | c :: t, _ =>
    simp only [List.getElem_cons_zero] at h32
    subst h32
    have := restPs_next h hy
    rw [show 1 + (wordOf ((32 :: t).drop 1)).length = (wordOf t).length + 1 by simp; omega, List.drop_succ_cons]
    exact this
/-- where a word ends -/
theorem wordOf_at {s : List UInt8} {j : Nat} (hj : j ≤ s.length) (h1 : ∀ i (h : i < j), s[i]'(by omega) ≠ 32) (h2 : j = s.length ∨ ∃ h : j < s.length, s[j] = 32) : wordOf s = s.take j := by
  have e : s = s.take j ++ s.drop j := (List.take_append_drop j s).symm
  have ha : ∀ c ∈ s.take j, (!(c == 32)) = true := by
    intro c hc
    obtain ⟨i, hi, rfl⟩ := List.mem_take_iff_getElem.1 hc
    simpa using h1 i (by omega)
  have hb : s.drop j = [] ∨ ∃ c t, s.drop j = c :: t ∧ (!(c == 32)) = false := by
    rcases h2 with h | ⟨h, h3⟩
    · exact .inl (by rw [h]; simp)
    · exact .inr ⟨s[j], s.drop (j + 1), List.drop_eq_getElem_cons h, by rw [h3]; rfl⟩
  unfold wordOf
  conv => lhs; rw [e]
  exact (takeWhile_split ha hb).1
theorem pmOf_no {w : List UInt8} (h : ∀ c ∈ w, c ≠ 61) : pmOf w = (upL w, []) ∧ pmOk w = pmB (upL w, []) := by
  obtain ⟨t1, t2⟩ := takeWhile_split (p := fun c : UInt8 => !(c == 61)) (a := w) (b := []) (fun c hc => by simpa using h c hc) (.inl rfl)
  rw [List.append_nil] at t1 t2
  have e : pmOf w = (upL w, []) := by unfold pmOf; rw [t1, t2]; rfl
  have hc : w.contains 61 = false := by
    rw [Bool.eq_false_iff]; intro hc
    exact h 61 (List.contains_iff_mem.1 hc) rfl
  refine ⟨e, ?_⟩
  unfold pmOk; rw [e, hc]; simp
theorem pmOf_at {n v : List UInt8} (h : ∀ c ∈ n, c ≠ 61) : pmOf (n ++ 61 :: v) = (upL n, v) ∧ pmOk (n ++ 61 :: v) = (pmB (upL n, v) && !v.isEmpty) := by
  obtain ⟨t1, t2⟩ := takeWhile_split (p := fun c : UInt8 => !(c == 61)) (a := n) (b := 61 :: v) (fun c hc => by simpa using h c hc) (.inr ⟨61, v, rfl, by decide⟩)
  have e : pmOf (n ++ 61 :: v) = (upL n, v) := by unfold pmOf; rw [t1, t2]; rfl
  refine ⟨e, ?_⟩
  unfold pmOk; rw [e]; simp
end Go.Proofs.YtehkdbgoeakgbaaGreatDoor
