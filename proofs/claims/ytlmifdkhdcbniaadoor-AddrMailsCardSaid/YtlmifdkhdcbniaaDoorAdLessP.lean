/- addr, plain: a mail that may be, with less. -/
import Derived.Test.YtlmifdkhdcbniaaDoorAdX
namespace Go.Proofs.YtlmifdkhdcbniaaDoor
set_option linter.all false
open Go.RowKit

theorem lc_not (c : UInt8) (h : lc c = true) : c ≠ 13 ∧ c ≠ 10 := by
  constructor
  · rintro rfl; revert h; decide
  · rintro rfl; revert h; decide
theorem cutL_line : ∀ (l t : List UInt8), l.all lc = true → cutL (l ++ 13 :: 10 :: t) = (l :: (cutL t).1, (cutL t).2)
  | [], t, _ => by
    show cutL (13 :: 10 :: t) = _
    rw [cutL, if_pos ⟨rfl, rfl⟩]
  | [c], t, h => by
    have hc := (lc_not c (by simpa using h)).1
    show cutL (c :: 13 :: 10 :: t) = _
    rw [cutL, if_neg (fun e => hc e.1), show cutL (13 :: 10 :: t) = ([] :: (cutL t).1, (cutL t).2) from by rw [cutL, if_pos ⟨rfl, rfl⟩]]
    rfl
  | c :: d :: l, t, h => by
    have h1 : lc c = true ∧ (d :: l).all lc = true := by simpa using h
    have hc := (lc_not c h1.1).1
    have ih := cutL_line (d :: l) t h1.2
    show cutL (c :: d :: (l ++ 13 :: 10 :: t)) = _
    rw [cutL, if_neg (fun e => hc e.1)]
    have : cutL (d :: (l ++ 13 :: 10 :: t)) = ((d :: l) :: (cutL t).1, (cutL t).2) := ih
    rw [this]
    rfl
theorem cutL_joinL : ∀ (ls : List (List UInt8)), ls.all lineB = true → cutL (joinL ls) = (ls, [])
  | [], _ => rfl
  | l :: ls, h => by
    have h1 : lineB l = true ∧ ls.all lineB = true := by simpa using h
    have ih := cutL_joinL ls h1.2
    have hl : l.all lc = true := by have := h1.1; unfold lineB at this; simp only [Bool.and_eq_true] at this; exact this.2
    have e : joinL (l :: ls) = l ++ 13 :: 10 :: joinL ls := by simp [joinL, crlf]
    rw [e, cutL_line l _ hl, ih]
theorem linesB_join {ls : List (List UInt8)} (h : ls.all lineB = true) : linesB (joinL ls) = true := by
  unfold linesB; rw [cutL_joinL ls h, h]; rfl
theorem linesB_of {s : List UInt8} (h : linesB s = true) : ∃ ls : List (List UInt8), s = joinL ls ∧ ls.all lineB = true := by
  unfold linesB at h
  simp only [Bool.and_eq_true] at h
  have h1 := (cutL_join s).1
  have h2 : (cutL s).2 = [] := by simpa using h.2
  rw [h2, List.append_nil] at h1
  exact ⟨_, h1.symm, h.1⟩
/-- where the last line begins -/
structure LastLine (s : List UInt8) (at' : Nat) : Prop where
  le : at' ≤ s.length - 2
  beg : at' = 0 ∨ ∃ h : at' - 1 < s.length, s[at' - 1] = 10
  no : ∀ j (h : j < s.length), at' ≤ j → j < s.length - 2 → s[j] ≠ 10
theorem lines_less {s : List UInt8} {a : Nat} (h : linesB s = true) (hl : LastLine s a) : linesB (s.take a) = true := by
  obtain ⟨ls, rfl, hall⟩ := linesB_of h
  rcases List.eq_nil_or_concat ls with rfl | ⟨ls', l, rfl⟩
  · show linesB (([] : List UInt8).take a) = true
    rw [List.take_nil]; rfl
  simp only [List.concat_eq_append] at *
  have hall' : ls'.all lineB = true ∧ lineB l = true := by simpa using hall
  have hlc : l.all lc = true := by have := hall'.2; unfold lineB at this; simp only [Bool.and_eq_true] at this; exact this.2
  have e : joinL (ls' ++ [l]) = joinL ls' ++ (l ++ crlf) := joinL_snoc ls' l
  rw [e] at hl ⊢
  obtain ⟨P, hP⟩ : ∃ P, P = (joinL ls').length := ⟨_, rfl⟩
  have hlen : (joinL ls' ++ (l ++ crlf)).length = P + l.length + 2 := by simp [hP, crlf]; omega
  have hin : ∀ j (hj : j < (joinL ls' ++ (l ++ crlf)).length), P ≤ j → j < P + l.length → (joinL ls' ++ (l ++ crlf))[j] ≠ 10 := by
    intro j hj h1 h2
    rw [List.getElem_append_right (by omega), List.getElem_append_left (by omega)]
    have := List.all_eq_true.1 hlc _ (List.getElem_mem (show j - (joinL ls').length < l.length by omega))
    exact (lc_not _ this).2
  have hend : 0 < P → ∃ hj : P - 1 < (joinL ls' ++ (l ++ crlf)).length, (joinL ls' ++ (l ++ crlf))[P - 1] = 10 := by
    intro hp
    refine ⟨by omega, ?_⟩
    rcases List.eq_nil_or_concat ls' with rfl | ⟨l2, x, rfl⟩
    · simp [joinL] at hP; omega
    · simp only [List.concat_eq_append] at hP ⊢
      have e2 : joinL (l2 ++ [x]) = joinL l2 ++ (x ++ crlf) := joinL_snoc l2 x
      rw [List.getElem_append_left (by omega)]
      have hq : P = (joinL l2).length + x.length + 2 := by rw [hP, e2]; simp [crlf]; omega
      simp only [e2]
      rw [List.getElem_append_right (by omega), List.getElem_append_right (by omega)]
      have : P - 1 - (joinL l2).length - x.length = 1 := by omega
      simp [this, crlf]
  obtain ⟨h1, h2, h3⟩ := hl
  rw [hlen] at h1
  have ha : a = P := by
    rcases Nat.lt_trichotomy a P with q | q | q
    · obtain ⟨hj, he⟩ := hend (by omega)
      exact absurd he (h3 (P - 1) hj (by omega) (by omega))
    · exact q
    · rcases h2 with h2 | ⟨hj, he⟩
      · omega
      · exact absurd he (hin (a - 1) hj (by omega) (by omega))
  rw [ha, hP, List.take_left]
  exact linesB_join hall'.1
theorem rcOk_append : ∀ (seen a b : List (List UInt8 × Bool)), rcOk seen (a ++ b) = (rcOk seen a && rcOk (seen ++ a) b)
  | seen, [], b => by simp [rcOk]
  | seen, r :: a, b => by
    simp only [List.cons_append, rcOk]
    rw [rcOk_append (seen ++ [r]) a b]
    simp [Bool.and_assoc]
theorem rcOk_parse : ∀ (seen a : List (List UInt8 × Bool)), rcOk seen a = true → ∀ r, r ∈ a → parseB r.1 = true
  | _, [], _, r, hr => by simp at hr
  | seen, x :: a, h, r, hr => by
    simp only [rcOk, Bool.and_eq_true] at h
    rcases List.mem_cons.1 hr with rfl | hr
    · exact h.1.1
    · exact rcOk_parse _ a h.2 r hr
theorem err_zero {m : Ml} {rcpts most : Int} (h : m.err rcpts most = 0) : (m.txt.length : Int) ≤ most ∧ (m.rc.length : Int) ≤ rcpts ∧ m.head = true ∧ rcOk [] m.rc = true := by
  unfold Ml.err at h
  by_cases h1 : most < (m.txt.length : Int) ∨ rcpts < (m.rc.length : Int)
  · rw [if_pos h1] at h; omega
  · rw [if_neg h1] at h
    by_cases h2 : (m.head && rcOk [] m.rc) = true
    · simp only [Bool.and_eq_true] at h2
      exact ⟨by omega, by omega, h2.1, h2.2⟩
    · rw [if_neg h2] at h; omega
theorem head_parts {m : Ml} (h : m.head = true) : 0 < m.rc.length ∧ linesB m.txt = true := by
  unfold Ml.head at h
  simp only [Bool.and_eq_true, decide_eq_true_eq] at h
  exact ⟨h.2.1, h.2.2.2.1⟩
theorem err_is {m : Ml} {rcpts most : Int} (h1 : (m.txt.length : Int) ≤ most) (h2 : (m.rc.length : Int) ≤ rcpts) : m.err rcpts most = if (m.head && rcOk [] m.rc) = true then 0 else 4 := by
  unfold Ml.err; rw [if_neg (by omega)]
/-- with a recipient twice -/
theorem err_twice {m m' : Ml} {rcpts most : Int} (h : m.err rcpts most = 0) (hr : (m.rc.length : Int) < rcpts) (hrc : m'.rc = m.rc ++ m.rc.take 1) (ht : m'.txt = m.txt) : m'.err rcpts most = 4 := by
  obtain ⟨h1, h2, h3, h4⟩ := err_zero h
  have hp := (head_parts h3).1
  rw [err_is (by rw [ht]; exact h1) (by rw [hrc]; simp; omega), hrc]
  have hbad : rcOk [] (m.rc ++ m.rc.take 1) = false := by
    rw [rcOk_append]
    match hm : m.rc, hp with
    | r :: rest, _ =>
      rw [hm] at h4
      have hpr := rcOk_parse [] _ h4 r (by simp)
      have hs : sameB r.1 r.1 = true := by unfold sameB; rw [hpr]; simp
      simp [rcOk, hs]
  rw [hbad, Bool.and_false]; rfl
/-- with less -/
theorem err_less {m m' : Ml} {rcpts most : Int} {a : Nat} (h : m.err rcpts most = 0) (hf : m'.frm = []) (he : m'.env = []) (hrc : m'.rc = m.rc ∨ (1 < m.rc.length ∧ m'.rc = m.rc.take (m.rc.length - 1))) (hl : LastLine m.txt a) (ht : m'.txt = m.txt.take a) : m'.err rcpts most = 0 := by
  obtain ⟨h1, h2, h3, h4⟩ := err_zero h
  obtain ⟨hp, hL⟩ := head_parts h3
  have hlen : m'.rc.length ≤ m.rc.length ∧ 0 < m'.rc.length := by
    rcases hrc with e | ⟨e1, e⟩
    · rw [e]; omega
    · rw [e]; simp; omega
  have hok : rcOk [] m'.rc = true := by
    rcases hrc with e | ⟨e1, e⟩
    · rw [e]; exact h4
    · rw [e]
      have := h4
      rw [← List.take_append_drop (m.rc.length - 1) m.rc, rcOk_append, Bool.and_eq_true] at this
      exact this.1
  have htl : m'.txt.length ≤ m.txt.length := by rw [ht]; simp; omega
  rw [err_is (by omega) (by omega), hok]
  have hh : m'.head = true := by
    unfold Ml.head
    rw [hf, he, ht, lines_less hL hl, decide_eq_true hlen.2]
    rfl
  rw [hh]; rfl
end Go.Proofs.YtlmifdkhdcbniaaDoor
