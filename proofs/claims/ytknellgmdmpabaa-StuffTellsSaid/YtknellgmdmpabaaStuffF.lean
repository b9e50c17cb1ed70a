/- stuff: the plain laws. -/
import Derived.Test.YtknellgmdmpabaaStuffE
namespace Go.Proofs.Ytknellgmdmpabaa
set_option linter.all false
open Go.RowKit Go.Shelf

def NoCrlf (s : List UInt8) : Prop := ∀ i (h : i + 1 < s.length), ¬ (s[i] = 13 ∧ s[i + 1] = 10)
theorem frn_str (a : List UInt8) : (a != a) = false := by simp
theorem fr_str (a : List UInt8) : (a == a) = true := by simp
theorem frn_int (a : Int) : (a != a) = false := by simp
theorem fr_int (a : Int) : (a == a) = true := by simp
theorem NoCrlf.tail {c : UInt8} {s : List UInt8} (h : NoCrlf (c :: s)) : NoCrlf s := fun i hi => by
  have := h (i + 1) (by simp at hi ⊢; omega)
  simpa using this
theorem NoCrlf.cons {c : UInt8} {s : List UInt8} (h : NoCrlf s) (hc : ∀ d t, s = d :: t → ¬ (c = 13 ∧ d = 10)) : NoCrlf (c :: s) := fun i hi => by
  cases i with
  | zero =>
    cases s with
    | nil => simp at hi
    | cons d t => simpa using hc d t rfl
  | succ i => have := h i (by simp at hi ⊢; omega); simpa using this
theorem cutL_app : ∀ (x y : List UInt8), cutL (x ++ y) = ((cutL x).1 ++ (cutL ((cutL x).2 ++ y)).1, (cutL ((cutL x).2 ++ y)).2)
  | [], y => rfl
  | [c], y => rfl
  | c :: d :: t, y => by
    by_cases h : c = 13 ∧ d = 10
    · have ih := cutL_app t y
      rw [List.cons_append, List.cons_append, cutL, if_pos h, cutL, if_pos h, ih]
      rfl
    · have ih := cutL_app (d :: t) y
      rw [List.cons_append] at ih
      rw [List.cons_append, List.cons_append, cutL, if_neg h, ih, cutL, if_neg h]
      cases hq : (cutL (d :: t)).1 with
      | nil =>
        have hn := cutL_none hq
        simp only [pushL, hq, hn, List.nil_append, List.cons_append]
        have e : cutL (c :: d :: (t ++ y)) = pushL c (cutL (d :: (t ++ y))) := by rw [cutL, if_neg h]
        rw [e]
        rfl
      | cons a r => simp [pushL, hq]
theorem cutL_line : ∀ (s t : List UInt8), NoCrlf s → cutL (s ++ 13 :: 10 :: t) = (s :: (cutL t).1, (cutL t).2)
  | [], t, _ => by rw [List.nil_append, cutL, if_pos ⟨rfl, rfl⟩]
  | [c], t, _ => by
    have ih := cutL_line [] t (fun i hi => by simp at hi)
    rw [List.nil_append] at ih
    rw [List.cons_append, List.nil_append, cutL, if_neg (by rintro ⟨_, h⟩; exact absurd h (by decide)), ih]
    rfl
  | c :: d :: s, t, h1 => by
    have h0 : ¬ (c = 13 ∧ d = 10) := by have := h1 0 (by simp); simpa using this
    have ih := cutL_line (d :: s) t h1.tail
    rw [List.cons_append] at ih
    rw [List.cons_append, List.cons_append, cutL, if_neg h0, ih]
    rfl
theorem cutL_lines : ∀ (ls : List (List UInt8)) (t : List UInt8), (∀ l ∈ ls, NoCrlf l) → cutL (joinL ls ++ t) = (ls ++ (cutL t).1, (cutL t).2)
  | [], t, _ => rfl
  | a :: ls, t, h => by
    have ih := cutL_lines ls t (fun l hl => h l (by simp [hl]))
    have e : joinL (a :: ls) ++ t = a ++ 13 :: 10 :: (joinL ls ++ t) := by simp [joinL, crlf]
    rw [e, cutL_line a _ (h a (by simp)), ih]
    rfl
theorem cutL_nocrlf : ∀ (s : List UInt8), ∀ l ∈ (cutL s).1, NoCrlf l
  | [], l, hl => by simp [cutL] at hl
  | [c], l, hl => by simp [cutL] at hl
  | c :: d :: t, l, hl => by
    by_cases h : c = 13 ∧ d = 10
    · rw [cutL, if_pos h] at hl
      rcases List.mem_cons.1 hl with rfl | hl
      · exact fun i hi => by simp at hi
      · exact cutL_nocrlf t l hl
    · have ih := cutL_nocrlf (d :: t)
      rw [cutL, if_neg h] at hl
      cases hq : (cutL (d :: t)).1 with
      | nil => simp [pushL, hq] at hl
      | cons a r =>
        simp only [pushL, hq] at hl
        rw [hq] at ih
        rcases List.mem_cons.1 hl with rfl | hl
        · refine (ih a (by simp)).cons (fun e t' he => ?_)
          -- the line's first byte is d
          have hj := (cutL_join (d :: t)).1
          rw [hq, he] at hj
          simp [joinL] at hj
          rw [hj.1]
          exact h
        · exact ih l (by simp [hl])
theorem hp_iff (l : List UInt8) : hp l = true ↔ ∃ t, l = 46 :: t := by
  cases l with
  | nil => simp [hp, Lib.hasPrefix]
  | cons a t =>
    simp [hp, Lib.hasPrefix, List.isPrefixOf]
    exact eq_comm
theorem dot_ne (l : List UInt8) : dot l ≠ [46] := by
  unfold dot
  split
  · rename_i h
    obtain ⟨t, rfl⟩ := (hp_iff l).1 h
    simp
  · rename_i h
    intro e
    exact h ((hp_iff l).2 ⟨[], e⟩)
theorem dot_nocrlf {l : List UInt8} (h : NoCrlf l) : NoCrlf (dot l) := by
  unfold dot
  split
  · exact h.cons (fun d t _ => by rintro ⟨h, _⟩; exact absurd h (by decide))
  · exact h
theorem uns_dots : ∀ (ls : List (List UInt8)) (acc : List UInt8) (ms : List (List UInt8)) (r : List UInt8), uns acc (ls.map dot ++ [46] :: ms) r = (acc ++ joinL ls, joinL ms ++ r, 0)
  | [], acc, ms, r => by simp [uns, joinL]
  | l :: ls, acc, ms, r => by
    have ih := uns_dots ls (acc ++ (l ++ [13, 10])) ms r
    rw [List.map_cons, List.cons_append, uns, if_neg (dot_ne l)]
    have e : acc ++ joinL (l :: ls) = acc ++ (l ++ [13, 10]) ++ joinL ls := by simp [joinL, crlf]
    by_cases h : hp l = true
    · have hd : dot l = 46 :: l := by unfold dot; rw [if_pos h]
      rw [hd, if_pos ((hp_iff _).2 ⟨l, rfl⟩), List.tail_cons, if_pos h, ih, e]
    · have hd : dot l = l := by unfold dot; rw [if_neg h]
      rw [hd, if_neg h, ih, e]
theorem stuffed_cut {s t : List UInt8} : cutL (joinL ((cutL s).1.map dot ++ [[46]]) ++ t) = ((cutL s).1.map dot ++ [46] :: (cutL t).1, (cutL t).2) := by
  rw [cutL_lines]
  · simp
  · intro l hl
    rcases List.mem_append.1 hl with hl | hl
    · obtain ⟨x, hx, rfl⟩ := List.mem_map.1 hl
      exact dot_nocrlf (cutL_nocrlf s x hx)
    · simp at hl
      subst hl
      exact fun i hi => by simp at hi
/-- what was sent is the text, whatever is behind -/
theorem unstuff_stuff {s : List UInt8} (h : (cutL s).2 = []) (t : List UInt8) : unsV ((stuffV s).1 ++ t) = (s, t, 0) := by
  have hv : stuffV s = (joinL ((cutL s).1.map dot ++ [[46]]), 0) := if_pos h
  unfold unsV
  rw [hv, stuffed_cut]
  dsimp only
  rw [uns_dots]
  have h1 := (cutL_join s).1
  rw [h, List.append_nil] at h1
  rw [List.nil_append, h1, (cutL_join t).1]
theorem uns_bad : ∀ (ls : List (List UInt8)) (acc r : List UInt8), (uns acc ls r).2.2 ≠ 0 → uns acc ls r = ([], [], (uns acc ls r).2.2)
  | [], acc, r, _ => rfl
  | l :: ls, acc, r, h => by
    rw [uns] at h ⊢
    split
    · rename_i h1; rw [if_pos h1] at h; exact absurd rfl h
    · rename_i h1
      rw [if_neg h1] at h
      split
      · rename_i h2
        rw [if_pos h2] at h
        split
        · rename_i h3
          rw [if_pos h3] at h
          exact uns_bad ls _ r h
        · rfl
      · rename_i h2
        rw [if_neg h2] at h
        exact uns_bad ls _ r h
theorem uns_good : ∀ (ls : List (List UInt8)) (acc r a b : List UInt8), (∀ l ∈ ls, NoCrlf l) → uns acc ls r = (a, b, 0) →
    ∃ ms, (∀ l ∈ ms, NoCrlf l) ∧ a = acc ++ joinL ms ∧ joinL ls ++ r = joinL (ms.map dot ++ [[46]]) ++ b
  | [], acc, r, a, b, _, h => by simp [uns] at h
  | l :: ls, acc, r, a, b, hn, h => by
    rw [uns] at h
    have hn' : ∀ l ∈ ls, NoCrlf l := fun x hx => hn x (by simp [hx])
    split at h
    · rename_i h1
      subst h1
      simp only [Prod.mk.injEq] at h
      obtain ⟨rfl, rfl, _⟩ := h
      exact ⟨[], by simp, by simp [joinL], by simp [joinL]⟩
    · rename_i h1
      split at h
      · rename_i h2
        obtain ⟨t, rfl⟩ := (hp_iff _).1 h2
        rw [List.tail_cons] at h
        split at h
        · rename_i h3
          obtain ⟨ms, k1, k2, k3⟩ := uns_good ls _ r a b hn' h
          have hd : dot t = 46 :: t := by unfold dot; rw [if_pos h3]
          refine ⟨t :: ms, ?_, by rw [k2]; simp [joinL, crlf], ?_⟩
          · intro x hx
            rcases List.mem_cons.1 hx with rfl | hx
            · exact (hn (46 :: x) (by simp)).tail
            · exact k1 x hx
          · rw [List.map_cons, hd, List.cons_append, show joinL ((46 :: t) :: ls) = (46 :: t) ++ crlf ++ joinL ls from rfl, show joinL ((46 :: t) :: (ms.map dot ++ [[46]])) = (46 :: t) ++ crlf ++ joinL (ms.map dot ++ [[46]]) from rfl, List.append_assoc, k3]; simp only [List.append_assoc, List.cons_append]
        · simp at h
      · rename_i h2
        obtain ⟨ms, k1, k2, k3⟩ := uns_good ls _ r a b hn' h
        have hd : dot l = l := by unfold dot; rw [if_neg h2]
        refine ⟨l :: ms, ?_, by rw [k2]; simp [joinL, crlf], ?_⟩
        · intro x hx
          rcases List.mem_cons.1 hx with rfl | hx
          · exact hn x (by simp)
          · exact k1 x hx
        · rw [List.map_cons, hd, List.cons_append, show joinL (l :: ls) = l ++ crlf ++ joinL ls from rfl, show joinL (l :: (ms.map dot ++ [[46]])) = l ++ crlf ++ joinL (ms.map dot ++ [[46]]) from rfl, List.append_assoc, k3]; simp only [List.append_assoc, List.cons_append]
/-- what is read so, sent, is that -/
theorem stuff_unstuff {t a b : List UInt8} (h : unsV t = (a, b, 0)) : ∃ y, stuffV a = (y, 0) ∧ y ++ b = t := by
  obtain ⟨ms, k1, k2, k3⟩ := uns_good _ _ _ _ _ (cutL_nocrlf t) h
  rw [List.nil_append] at k2
  have hc : cutL a = (ms, []) := by
    have := cutL_lines ms [] k1
    rw [List.append_nil] at this
    rw [k2, this]
    simp [cutL]
  refine ⟨joinL (ms.map dot ++ [[46]]), ?_, ?_⟩
  · unfold stuffV
    rw [hc]
    rfl
  · rw [← k3, (cutL_join t).1]
theorem cut_crlf : ∀ x : List UInt8, (cutL (x ++ [13, 10])).1 ≠ [] ∧ (cutL (x ++ [13, 10])).2 = []
  | [] => ⟨by simp [cutL], rfl⟩
  | [c] => by
    have : cutL ([c] ++ [13, 10]) = pushL c (cutL [13, 10]) := by
      show cutL (c :: 13 :: [10]) = _
      rw [cutL, if_neg (by rintro ⟨_, h⟩; exact absurd h (by decide))]
    rw [this]
    exact ⟨by simp [cutL, pushL], by simp [cutL, pushL]⟩
  | c :: d :: t => by
    by_cases h : c = 13 ∧ d = 10
    · have ih := cut_crlf t
      rw [List.cons_append, List.cons_append, cutL, if_pos h]
      exact ⟨by simp, ih.2⟩
    · have ih := cut_crlf (d :: t)
      rw [List.cons_append] at ih
      rw [List.cons_append, List.cons_append, cutL, if_neg h]
      cases hq : (cutL (d :: (t ++ [13, 10]))).1 with
      | nil => exact absurd hq ih.1
      | cons a r => simp [pushL, hq, ih.2]
/-- what has an end -/
theorem ended_iff (s : List UInt8) : (cutL s).2 = [] ↔ s = [] ∨ (1 < s.length ∧ s.drop (s.length - 2) = [13, 10]) := by
  constructor
  · intro h
    have hj := (cutL_join s).1
    rw [h, List.append_nil] at hj
    rcases List.eq_nil_or_concat (cutL s).1 with he | ⟨ls, l, he⟩
    · left; rw [he] at hj; simpa [joinL] using hj.symm
    · right
      rw [he, List.concat_eq_append, joinL_snoc] at hj
      rw [← hj]
      simp [crlf]
      rw [← List.append_assoc, List.drop_append, List.drop_of_length_le (by simp; omega)]
      simp
      rw [show (joinL ls).length + (l.length + 2) - 2 - ((joinL ls).length + l.length) = 0 by omega]
      exact ⟨by omega, rfl⟩
  · rintro (rfl | ⟨h1, h2⟩)
    · rfl
    · have := List.take_append_drop (s.length - 2) s
      rw [h2] at this
      rw [← this]
      exact (cut_crlf _).2
end Go.Proofs.Ytknellgmdmpabaa
