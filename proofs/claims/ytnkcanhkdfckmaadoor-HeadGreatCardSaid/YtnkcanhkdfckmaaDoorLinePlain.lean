/- Lines, in plain: a text cut at its CR LFs. -/
import Derived.Lib.IndexLaws
import Derived.Lib.Strings
import Derived.Lib.IndexMore
namespace Go.Proofs.YtnkcanhkdfckmaaDoor
set_option linter.all false

def pushL (c : UInt8) (x : List (List UInt8) × List UInt8) : List (List UInt8) × List UInt8 := match x.1 with
  | [] => ([], c :: x.2)
  | l :: ls => ((c :: l) :: ls, x.2)
/-- a text's lines that are ended, and the rest -/
def cutL : List UInt8 → List (List UInt8) × List UInt8
  | [] => ([], [])
  | [c] => ([], [c])
  | c :: d :: t => if c = 13 ∧ d = 10 then ([] :: (cutL t).1, (cutL t).2) else pushL c (cutL (d :: t))
def crlf : List UInt8 := [13, 10]
theorem pre_crlf (c d : UInt8) (t : List UInt8) : crlf.isPrefixOf (c :: d :: t) = decide (c = 13 ∧ d = 10) := by
  rw [Bool.eq_iff_iff]
  simp [crlf, List.isPrefixOf]
  constructor
  · rintro ⟨rfl, rfl⟩; exact ⟨rfl, rfl⟩
  · rintro ⟨rfl, rfl⟩; exact ⟨rfl, rfl⟩
theorem cutL_idx : ∀ (s : List UInt8), (Lib.index s crlf = -1 ∧ cutL s = ([], s)) ∨ ∃ i : Nat, Lib.index s crlf = i ∧ i + 2 ≤ s.length ∧ cutL s = (s.take i :: (cutL (s.drop (i + 2))).1, (cutL (s.drop (i + 2))).2)
  | [] => .inl ⟨rfl, rfl⟩
  | [c] => .inl ⟨by simp [Lib.index, crlf, List.isPrefixOf], rfl⟩
  | c :: d :: t => by
    by_cases h : c = 13 ∧ d = 10
    · right
      refine ⟨0, ?_, by simp, ?_⟩
      · rw [Lib.index, pre_crlf, decide_eq_true h]; rfl
      · rw [cutL, if_pos h]; rfl
    · have ih := cutL_idx (d :: t)
      rw [Lib.index, pre_crlf, decide_eq_false h, cutL, if_neg h]
      rcases ih with ⟨h1, h2⟩ | ⟨i, h1, h2, h3⟩
      · left
        rw [h1, h2]; exact ⟨rfl, rfl⟩
      · right
        refine ⟨i + 1, ?_, by simp at h2 ⊢; try omega, ?_⟩
        · rw [h1]
          have : ((i : Int) == -1) = false := by simp <;> omega
          simp [this]
        · rw [h3]; simp [pushL]
theorem cutL_none {s : List UInt8} (h : (cutL s).1 = []) : (cutL s).2 = s := by
  rcases cutL_idx s with ⟨_, h2⟩ | ⟨i, _, _, h3⟩
  · rw [h2]
  · rw [h3] at h; cases h
def joinL (ls : List (List UInt8)) : List UInt8 := ls.flatMap fun l => l ++ crlf
theorem joinL_snoc (r : List (List UInt8)) (y : List UInt8) : joinL (r ++ [y]) = joinL r ++ (y ++ crlf) := by simp [joinL]
/-- where the k-th line begins -/
def atL (ls : List (List UInt8)) (k : Nat) : Nat := (joinL (ls.take k)).length
theorem atL_zero (ls : List (List UInt8)) : atL ls 0 = 0 := rfl
theorem atL_succ {ls : List (List UInt8)} {k : Nat} (h : k < ls.length) : atL ls (k + 1) = atL ls k + ls[k].length + 2 := by
  unfold atL
  rw [List.take_succ_eq_append_getElem h, joinL_snoc]
  simp [crlf]; omega
theorem atL_cut (s : List UInt8) : ∀ k, k ≤ (cutL s).1.length → atL (cutL s).1 k ≤ s.length ∧ cutL (s.drop (atL (cutL s).1 k)) = ((cutL s).1.drop k, (cutL s).2) ∧ joinL ((cutL s).1.take k) ++ s.drop (atL (cutL s).1 k) = s := by
  intro k
  induction k with
  | zero => intro _; exact ⟨by rw [atL_zero]; omega, rfl, rfl⟩
  | succ k ih =>
    intro h
    obtain ⟨h1, h2, h3⟩ := ih (by omega)
    have h4 := atL_succ (ls := (cutL s).1) (k := k) (by omega)
    have hd := List.drop_eq_getElem_cons (l := (cutL s).1) (i := k) (by omega)
    rcases cutL_idx (s.drop (atL (cutL s).1 k)) with ⟨_, h5⟩ | ⟨i, h6, h7, h5⟩
    · rw [h2, hd] at h5; cases h5
    · have h5' := h5
      rw [h2, hd] at h5
      simp only [Prod.mk.injEq, List.cons.injEq] at h5
      obtain ⟨⟨e1, e2⟩, e3⟩ := h5
      have hl : (cutL s).1[k].length = i := by rw [e1]; simp at h7 ⊢; omega
      rw [hl] at h4
      have hdd : s.drop (atL (cutL s).1 (k + 1)) = (s.drop (atL (cutL s).1 k)).drop (i + 2) := by rw [List.drop_drop, h4]; congr 1
      refine ⟨by rw [h4]; simp at h7; omega, ?_, ?_⟩
      · rw [hdd]
        exact Prod.ext e2.symm e3.symm
      · have hocc : (s.drop (atL (cutL s).1 k)).drop i = crlf ++ (s.drop (atL (cutL s).1 k)).drop (i + 2) := by
          rcases Lib.index_spec (s.drop (atL (cutL s).1 k)) crlf with ⟨q, _⟩ | ⟨j, q1, q2, q3, _⟩
          · rw [q] at h6; omega
          · have : j = i := by rw [q1] at h6; omega
            subst this
            unfold Lib.occAt at q3
            obtain ⟨t, ht⟩ := List.isPrefixOf_iff_prefix.1 q3
            have : (s.drop (atL (cutL s).1 k)).drop (j + 2) = t := by
              rw [← List.drop_drop, ← ht]; rfl
            rw [this, ht]
        rw [List.take_succ_eq_append_getElem (by omega), joinL_snoc, hdd, List.append_assoc, List.append_assoc]
        rw [← hocc, e1]
        rw [show List.take i (s.drop (atL (cutL s).1 k)) ++ (s.drop (atL (cutL s).1 k)).drop i = s.drop (atL (cutL s).1 k) from List.take_append_drop _ _]
        exact h3
theorem cutL_join (s : List UInt8) : joinL (cutL s).1 ++ (cutL s).2 = s ∧ s.drop (atL (cutL s).1 (cutL s).1.length) = (cutL s).2 ∧ atL (cutL s).1 (cutL s).1.length ≤ s.length := by
  obtain ⟨h1, h2, h3⟩ := atL_cut s (cutL s).1.length (Nat.le_refl _)
  rw [List.drop_length] at h2
  have h4 : (cutL s).2 = s.drop (atL (cutL s).1 (cutL s).1.length) := by
    have := cutL_none (s := s.drop (atL (cutL s).1 (cutL s).1.length)) (by rw [h2])
    rw [h2] at this; exact this
  rw [List.take_length] at h3
  exact ⟨by rw [h4]; exact h3, h4.symm, h1⟩
/-- what is found next, from the k-th line's place on -/
theorem atL_next (s : List UInt8) {k : Nat} (h : k < (cutL s).1.length) : Lib.index (s.drop (atL (cutL s).1 k)) crlf = ((cutL s).1[k].length : Int) ∧ (s.drop (atL (cutL s).1 k)).take (cutL s).1[k].length = (cutL s).1[k] ∧ atL (cutL s).1 k + (cutL s).1[k].length + 2 ≤ s.length := by
  obtain ⟨h1, h2, _⟩ := atL_cut s k (by omega)
  have hd := List.drop_eq_getElem_cons (l := (cutL s).1) (i := k) h
  rcases cutL_idx (s.drop (atL (cutL s).1 k)) with ⟨_, h5⟩ | ⟨i, h6, h7, h5⟩
  · rw [h2, hd] at h5; cases h5
  · rw [h2, hd] at h5
    simp only [Prod.mk.injEq, List.cons.injEq] at h5
    obtain ⟨⟨e1, e2⟩, e3⟩ := h5
    have hl : (cutL s).1[k].length = i := by rw [e1]; simp at h7 ⊢; omega
    rw [hl]
    exact ⟨h6, e1.symm, by simp at h7; omega⟩
theorem atL_end (s : List UInt8) : Lib.index (s.drop (atL (cutL s).1 (cutL s).1.length)) crlf = -1 := by
  obtain ⟨h1, h2, _⟩ := atL_cut s _ (Nat.le_refl _)
  rw [List.drop_length] at h2
  rcases cutL_idx (s.drop (atL (cutL s).1 (cutL s).1.length)) with ⟨h5, _⟩ | ⟨i, h6, h7, h5⟩
  · exact h5
  · rw [h2] at h5; cases h5
theorem cutL_len (s : List UInt8) : (cutL s).1.length ≤ s.length := by
  have h : ∀ ls : List (List UInt8), ls.length ≤ (joinL ls).length := by
    intro ls
    induction ls with
    | nil => simp
    | cons a ls ih => simp [joinL, crlf] at ih ⊢; omega
  have h1 := congrArg List.length (cutL_join s).1
  have h2 := h (cutL s).1
  rw [List.length_append] at h1
  omega
end Go.Proofs.YtnkcanhkdfckmaaDoor
