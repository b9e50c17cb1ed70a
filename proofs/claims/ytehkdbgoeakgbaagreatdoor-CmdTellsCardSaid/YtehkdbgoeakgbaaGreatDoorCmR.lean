/- cmd, plain: the parameters told one by one are those parsed at once; no line begins by two words. -/
import Derived.Test.YtehkdbgoeakgbaaGreatDoorCmQ
namespace Go.Proofs.YtehkdbgoeakgbaaGreatDoor
set_option linter.all false
open Go.RowKit

/-- what told tells of a text: each parameter, and what is left behind it -/
def toldL : Nat → List UInt8 → List (Pm × List UInt8)
  | _, [] => []
  | 0, _ => []
  | n + 1, c :: t => if c = 32 ∧ pmOk (wordOf t) = true then (pmOf (wordOf t), (t.drop (wordOf t).length).drop 1) :: toldL n (t.drop (wordOf t).length) else []
/-- how much is used -/
def usedL (s : List UInt8) (l : List (Pm × List UInt8)) : Nat := match l.getLast? with
  | none => 0
  | some x => s.length - x.2.length
theorem wordOf_not (t : List UInt8) : ∀ c ∈ wordOf t, c ≠ 32 := by
  intro c hc
  have := List.all_takeWhile (p := fun c : UInt8 => !(c == 32)) (l := t)
  have h2 := List.all_eq_true.1 this c hc
  simpa using h2
theorem wordOf_drop (t : List UInt8) : t.drop (wordOf t).length = [] ∨ ∃ r, t.drop (wordOf t).length = 32 :: r := by
  have e : t.drop (wordOf t).length = t.dropWhile fun c => !(c == 32) := drop_tw _ t
  rw [e]
  cases h : t.dropWhile fun c => !(c == 32) with
  | nil => exact .inl rfl
  | cons c r =>
    have := List.head?_dropWhile_not (p := fun c : UInt8 => !(c == 32)) (l := t)
    rw [h] at this
    have hc : c = 32 := by simpa using this
    exact .inr ⟨r, by rw [hc]⟩
theorem wordOf_split (t : List UInt8) : t = wordOf t ++ t.drop (wordOf t).length := by
  have := List.takeWhile_append_dropWhile (p := fun c : UInt8 => !(c == 32)) (l := t)
  have e : t.drop (wordOf t).length = t.dropWhile fun c => !(c == 32) := drop_tw _ t
  rw [e]; exact this.symm
theorem pmOk_ne {w : List UInt8} (h : pmOk w = true) : w ≠ [] := by
  rintro rfl
  revert h; decide
theorem told_parse : ∀ (n : Nat) (s : List UInt8), s.length ≤ n → parsePs n s = if usedL s (toldL n s) = s.length ∧ s.getLast? ≠ some 32 then some ((toldL n s).map (·.1)) else none
  | n, [], _ => by cases n <;> simp [parsePs, toldL, usedL]
  | 0, c :: t, h => by simp at h
  | n + 1, c :: t, h => by
    have hlen : t.length ≤ n := by simpa using h
    rw [parsePs, toldL]
    by_cases hok : c = 32 ∧ pmOk (wordOf t) = true
    · rw [if_pos hok, if_pos hok]
      have hsp := wordOf_split t
      have hne := pmOk_ne hok.2
      have hnot := wordOf_not t
      have hdl : (t.drop (wordOf t).length).length ≤ n := by rw [List.length_drop]; omega
      have ih := told_parse n (t.drop (wordOf t).length) hdl
      rw [ih]
      rcases wordOf_drop t with e | ⟨r, e⟩
      · rw [e] at hsp ⊢
        rw [List.append_nil] at hsp
        have hl : (c :: t).getLast? ≠ some 32 := by
          rw [hsp]
          intro q
          rw [List.getLast?_cons_of_ne_nil hne] at q
          exact hnot 32 (List.mem_of_getLast? q) rfl
        have e1 : toldL n ([] : List UInt8) = [] := by cases n <;> rfl
        rw [e1]
        simp [usedL, hl]
      · have hl : (c :: t).getLast? = (32 :: r : List UInt8).getLast? := by
          rw [← e]
          conv => lhs; rw [hsp]
          rw [e, show c :: (wordOf t ++ 32 :: r) = (c :: wordOf t) ++ 32 :: r from rfl, List.getLast?_append, List.getLast?_cons (a := (32 : UInt8))]; rfl
        rw [hl, e]
        have hlt : (32 :: r : List UInt8).length < (c :: t).length := by
          have := congrArg List.length hsp
          rw [e, List.length_append] at this
          have h0 : 0 < (wordOf t).length := List.length_pos_iff.2 hne
          simp only [List.length_cons] at this ⊢; omega
        cases hL : (toldL n (32 :: r)).getLast? with
        | none =>
          have hnil : toldL n (32 :: r) = [] := List.getLast?_eq_none_iff.1 hL
          rw [hnil]
          have u0 : usedL (32 :: r) [] = 0 := rfl
          rw [u0, if_neg (by simp)]
          have u1 : usedL (c :: t) [(pmOf (wordOf t), (32 :: r : List UInt8).drop 1)] = (c :: t).length - r.length := rfl
          rw [u1]
          cases r with
          | nil => simp
          | cons d r => rw [if_neg (by simp only [List.length_cons] at hlt ⊢; omega)]; rfl
        | some x =>
          have u2 : usedL (32 :: r) (toldL n (32 :: r)) = (32 :: r : List UInt8).length - x.2.length := by unfold usedL; rw [hL]
          have u3 : usedL (c :: t) ((pmOf (wordOf t), (32 :: r : List UInt8).drop 1) :: toldL n (32 :: r)) = (c :: t).length - x.2.length := by
            unfold usedL
            rw [List.getLast?_cons, hL]; rfl
          rw [u2, u3]
          have q : ∀ a : List UInt8, 0 < a.length → (a.length - x.2.length = a.length ↔ x.2.length = 0) := fun a ha => by omega
          have q1 := q (32 :: r) (by simp)
          have q2 := q (c :: t) (by simp)
          by_cases hz : x.2.length = 0 ∧ (32 :: r : List UInt8).getLast? ≠ some 32
          · rw [if_pos ⟨q1.2 hz.1, hz.2⟩, if_pos ⟨q2.2 hz.1, hz.2⟩]; rfl
          · rw [if_neg (fun h => hz ⟨q1.1 h.1, h.2⟩), if_neg (fun h => hz ⟨q2.1 h.1, h.2⟩)]; rfl
    · rw [if_neg hok, if_neg hok]
      simp [usedL]
theorem told_len : ∀ (n : Nat) (s : List UInt8), (toldL n s).length ≤ s.length
  | n, [] => by cases n <;> simp [toldL]
  | 0, c :: t => by simp [toldL]
  | n + 1, c :: t => by
    rw [toldL]
    split
    · have := told_len n (t.drop (wordOf t).length)
      simp only [List.length_cons, List.length_drop] at this ⊢; omega
    · simp
/-- no line begins by two words -/
theorem word_one {line : List UInt8} {a b : Nat} (ha : 1 ≤ a ∧ a ≤ 6) (hb : 1 ≤ b ∧ b ≤ 6) (h1 : isWord line a = true) (h2 : isWord line b = true) : a = b := by
  have p1 := List.isPrefixOf_iff_prefix.1 (show (wordL a).isPrefixOf (upL line) = true from h1)
  have p2 := List.isPrefixOf_iff_prefix.1 (show (wordL b).isPrefixOf (upL line) = true from h2)
  have q : ∀ x, 1 ≤ x ∧ x ≤ 6 → (wordL x <+: upL line) → (wordL x).take 4 = (upL line).take 4 := by
    rintro x hx ⟨t, ht⟩
    rw [← ht, List.take_append_of_le_length]
    match x, hx with
    | 1, _ => decide
    | 2, _ => decide
    | 3, _ => decide
    | 4, _ => decide
    | 5, _ => decide
    | 6, _ => decide
  have e := (q a ha p1).trans (q b hb p2).symm
  match a, ha, b, hb with
  | 1, _, 1, _ => rfl
  | 2, _, 2, _ => rfl
  | 3, _, 3, _ => rfl
  | 4, _, 4, _ => rfl
  | 5, _, 5, _ => rfl
  | 6, _, 6, _ => rfl
  | 1, _, 2, _ => exact absurd e (by decide)
  | 1, _, 3, _ => exact absurd e (by decide)
  | 1, _, 4, _ => exact absurd e (by decide)
  | 1, _, 5, _ => exact absurd e (by decide)
  | 1, _, 6, _ => exact absurd e (by decide)
  | 2, _, 1, _ => exact absurd e (by decide)
  | 2, _, 3, _ => exact absurd e (by decide)
  | 2, _, 4, _ => exact absurd e (by decide)
  | 2, _, 5, _ => exact absurd e (by decide)
  | 2, _, 6, _ => exact absurd e (by decide)
  | 3, _, 1, _ => exact absurd e (by decide)
  | 3, _, 2, _ => exact absurd e (by decide)
  | 3, _, 4, _ => exact absurd e (by decide)
  | 3, _, 5, _ => exact absurd e (by decide)
  | 3, _, 6, _ => exact absurd e (by decide)
  | 4, _, 1, _ => exact absurd e (by decide)
  | 4, _, 2, _ => exact absurd e (by decide)
  | 4, _, 3, _ => exact absurd e (by decide)
  | 4, _, 5, _ => exact absurd e (by decide)
  | 4, _, 6, _ => exact absurd e (by decide)
  | 5, _, 1, _ => exact absurd e (by decide)
  | 5, _, 2, _ => exact absurd e (by decide)
  | 5, _, 3, _ => exact absurd e (by decide)
  | 5, _, 4, _ => exact absurd e (by decide)
  | 5, _, 6, _ => exact absurd e (by decide)
  | 6, _, 1, _ => exact absurd e (by decide)
  | 6, _, 2, _ => exact absurd e (by decide)
  | 6, _, 3, _ => exact absurd e (by decide)
  | 6, _, 4, _ => exact absurd e (by decide)
  | 6, _, 5, _ => exact absurd e (by decide)
end Go.Proofs.YtehkdbgoeakgbaaGreatDoor
