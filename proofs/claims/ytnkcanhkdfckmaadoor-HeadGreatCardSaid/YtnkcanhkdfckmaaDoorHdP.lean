/- head, plain: lines without CR; the body's place; the fields of shown lines. -/
import Derived.Test.YtnkcanhkdfckmaaDoorHdW
namespace Go.Proofs.YtnkcanhkdfckmaaDoor
set_option linter.all false
open Go.RowKit

/-! cutL of lines that have no CR -/
theorem cutL_line : ∀ (l y : List UInt8), (∀ c ∈ l, c ≠ 13) → cutL (l ++ (crlf ++ y)) = (l :: (cutL y).1, (cutL y).2)
  | [], y, _ => by
    show cutL (13 :: 10 :: y) = _
    rw [cutL, if_pos ⟨rfl, rfl⟩]
  | [c], y, h => by
    have hc : c ≠ 13 := h c (by simp)
    show cutL (c :: 13 :: 10 :: y) = _
    rw [cutL, if_neg (fun q => hc q.1)]
    have := cutL_line [] y (by simp)
    rw [show (13 : UInt8) :: 10 :: y = [] ++ (crlf ++ y) from rfl, this]
    rfl
  | c :: d :: t, y, h => by
    have hc : c ≠ 13 := h c (by simp)
    have ih := cutL_line (d :: t) y (fun x hx => h x (by simp at hx ⊢; right; exact hx))
    show cutL (c :: d :: (t ++ (crlf ++ y))) = _
    rw [cutL, if_neg (fun q => hc q.1)]
    rw [show d :: (t ++ (crlf ++ y)) = d :: t ++ (crlf ++ y) from rfl, ih]
    rfl
theorem cutL_lines : ∀ (ls : List (List UInt8)) (y : List UInt8), (∀ l ∈ ls, ∀ c ∈ l, c ≠ 13) → cutL (joinL ls ++ y) = (ls ++ (cutL y).1, (cutL y).2)
  | [], y, _ => rfl
  | l :: ls, y, h => by
    have ih := cutL_lines ls y (fun l hl => h l (by simp [hl]))
    have : joinL (l :: ls) ++ y = l ++ (crlf ++ (joinL ls ++ y)) := by simp [joinL]
    rw [this, cutL_line l _ (h l (by simp)), ih]
    rfl

/-! the fields stop at an empty line -/
theorem begB_nil : begB [] = false := by decide
theorem fs_empty : ∀ (L : List (List UInt8)) (now : Option Fd) (A : List (List UInt8)), fs now (L ++ [] :: A) = fs now L
  | [], none, A => by simp [fs, begB_nil]
  | [], some g, A => by simp [fs, begB_nil, contB_nil]
  | l :: L, none, A => by
    simp only [List.cons_append, fs]
    split
    · exact fs_empty L _ A
    · rfl
  | l :: L, some g, A => by
    simp only [List.cons_append, fs]
    split
    · exact fs_empty L _ A
    · split
      · rw [fs_empty L _ A]
      · rfl
/-- either no line is empty, or there is a first one -/
theorem firstEmpty : ∀ (ls : List (List UInt8)), (∀ l ∈ ls, l ≠ []) ∨ ∃ L A, ls = L ++ [] :: A ∧ ∀ l ∈ L, l ≠ []
  | [] => .inl (by simp)
  | [] :: ls => .inr ⟨[], ls, rfl, by simp⟩
  | (c :: t) :: ls => by
    rcases firstEmpty ls with h | ⟨L, A, rfl, h⟩
    · left; intro l hl
      rcases List.mem_cons.1 hl with rfl | hl
      · simp
      · exact h l hl
    · right
      refine ⟨(c :: t) :: L, A, rfl, ?_⟩
      intro l hl
      rcases List.mem_cons.1 hl with rfl | hl
      · simp
      · exact h l hl
theorem findE_none : ∀ {ls : List (List UInt8)}, (∀ l ∈ ls, l ≠ []) → ls.findIdx? List.isEmpty = none := by
  intro ls h
  rw [List.findIdx?_eq_none_iff]
  intro l hl
  have := h l hl
  cases l with
  | nil => exact absurd rfl this
  | cons c t => rfl
theorem findE_at : ∀ {L A : List (List UInt8)}, (∀ l ∈ L, l ≠ []) → (L ++ [] :: A).findIdx? List.isEmpty = some L.length
  | [], A, _ => by simp [List.findIdx?_cons]
  | [] :: L, A, h => absurd rfl (h [] (by simp))
  | (c :: t) :: L, A, h => by
    have ih := findE_at (L := L) (A := A) (fun l hl => h l (by simp [hl]))
    rw [List.cons_append, List.findIdx?_cons, ih]
    simp
theorem body_none {s : List UInt8} (h : ∀ l ∈ (cutL s).1, l ≠ []) : bodyL s = [] := by
  unfold bodyL; rw [findE_none h]
theorem body_at {s : List UInt8} {L A : List (List UInt8)} (h : (cutL s).1 = L ++ [] :: A) (hL : ∀ l ∈ L, l ≠ []) : bodyL s = joinL A ++ (cutL s).2 := by
  unfold bodyL
  rw [h, findE_at hL]
  simp
theorem joinL_app (a b : List (List UInt8)) : joinL (a ++ b) = joinL a ++ joinL b := by simp [joinL]
/-- a text with an empty line: its head, that line, and its body -/
theorem head_split {s : List UInt8} {L A : List (List UInt8)} (h : (cutL s).1 = L ++ [] :: A) (hL : ∀ l ∈ L, l ≠ []) : s = (joinL L ++ crlf) ++ bodyL s := by
  rw [body_at h hL]
  have := (cutL_join s).1
  rw [h, joinL_app] at this
  conv => lhs; rw [← this]
  simp [joinL]
theorem cut_some (l z : List UInt8) : (cutL (l ++ (crlf ++ z))).1 ≠ [] := by
  intro hn
  rcases cutL_idx (l ++ (crlf ++ z)) with ⟨q, _⟩ | ⟨i, _, _, q⟩
  · rcases Lib.index_spec (l ++ (crlf ++ z)) crlf with ⟨_, q2⟩ | ⟨j, q1, _⟩
    · have := q2 l.length (by simp [crlf])
      unfold Lib.occAt at this
      rw [List.drop_left] at this
      simp [crlf, List.isPrefixOf] at this
    · rw [q] at q1; omega
  · rw [q] at hn; cases hn
theorem one_line {l z : List UInt8} {M : List (List UInt8)} (h : (cutL (l ++ (crlf ++ z))).1 = l :: M) : cutL (l ++ crlf) = ([l], []) := by
  have ha := cutL_app (l ++ crlf) z
  rw [List.append_assoc] at ha
  have hne := cut_some l []
  rw [List.append_nil] at hne
  have hj := (cutL_join (l ++ crlf)).1
  rw [ha] at h
  obtain ⟨ls, r, hc⟩ : ∃ ls r, cutL (l ++ crlf) = (ls, r) := ⟨_, _, rfl⟩
  rw [hc] at h hne hj
  cases ls with
  | nil => exact absurd rfl hne
  | cons a ls =>
    simp only [List.cons_append, List.cons.injEq] at h
    obtain ⟨rfl, -⟩ := h
    have e1 : r = [] := List.eq_nil_of_length_eq_zero (by
      have : (joinL (a :: ls)).length = a.length + 2 + (joinL ls).length := by simp [joinL, crlf]; omega
      have h2 := congrArg List.length hj
      simp [crlf] at h2; omega)
    have e2 : ls = [] := by
      cases ls with
      | nil => rfl
      | cons x ls =>
        exfalso
        have : (joinL (a :: x :: ls)).length = a.length + 2 + (x.length + 2 + (joinL ls).length) := by simp [joinL, crlf]; omega
        have h2 := congrArg List.length hj
        simp [crlf] at h2; omega
    rw [hc, e1, e2]
/-- lines that a text was cut into, put together again, are cut so -/
theorem cut_head : ∀ (L A : List (List UInt8)) (s : List UInt8), (cutL s).1 = L ++ A → cutL (joinL L) = (L, [])
  | [], A, s, _ => rfl
  | l :: L, A, s, h => by
    have hs := (cutL_join s).1
    rw [h] at hs
    have hs2 : s = l ++ (crlf ++ (joinL (L ++ A) ++ (cutL s).2)) := by
      conv => lhs; rw [← hs]
      simp [joinL]
    have h1 : cutL (l ++ crlf) = ([l], []) := one_line (z := joinL (L ++ A) ++ (cutL s).2) (M := L ++ A) (by rw [← hs2]; exact h)
    have h2 : (cutL (joinL (L ++ A) ++ (cutL s).2)).1 = L ++ A := by
      have h3 := h
      rw [hs2, ← List.append_assoc, cutL_app, h1] at h3
      simpa using h3
    have ih := cut_head L A _ h2
    have e : joinL (l :: L) = (l ++ crlf) ++ joinL L := by simp [joinL]
    rw [e, cutL_app, h1]
    simp [ih]
theorem cut_head2 {s y : List UInt8} {L A : List (List UInt8)} (h : (cutL s).1 = L ++ A) : cutL (joinL L ++ y) = (L ++ (cutL y).1, (cutL y).2) := by
  rw [cutL_app, cut_head L A s h]; rfl
/-- the end of the first empty line: looked for as the law looks -/
def quad (s : List UInt8) : Bool := match s with
  | a :: b :: c :: d :: _ => (a == 13 && b == 10) && (c == 13 && d == 10)
  | _ => false
def duo (s : List UInt8) : Bool := match s with
  | a :: b :: _ => a == 13 && b == 10
  | _ => false
def endE : Bool → List UInt8 → Option Nat
  | _, [] => none
  | _, [_] => none
  | st, c :: d :: t => if c = 13 ∧ d = 10 then (if st then some 2 else (endE true t).map (· + 2)) else (endE false (d :: t)).map (· + 1)
/-- the first place where a text has CR LF CR LF -/
def find4 : List UInt8 → Option Nat
  | [] => none
  | c :: t => if quad (c :: t) = true then some 4 else (find4 t).map (· + 1)
theorem find4_lf (t : List UInt8) : find4 (10 :: t) = (find4 t).map (· + 1) := by
  rw [find4, if_neg]
  rcases t with _ | ⟨a, _ | ⟨b, _ | ⟨c, t⟩⟩⟩ <;> simp [quad]
theorem endE_is : ∀ s : List UInt8, endE false s = find4 s ∧ endE true s = if duo s = true then some 2 else find4 s
  | [] => ⟨rfl, rfl⟩
  | [c] => by constructor <;> simp [endE, find4, quad, duo]
  | c :: d :: t => by
    by_cases h : c = 13 ∧ d = 10
    · obtain ⟨h1, h2⟩ := endE_is t
      obtain ⟨rfl, rfl⟩ := h
      have e : endE false (13 :: 10 :: t) = find4 (13 :: 10 :: t) := by
        rw [endE, if_pos ⟨rfl, rfl⟩, if_neg (by simp), h2, find4, find4_lf]
        have : quad (13 :: 10 :: t) = duo t := by
          rcases t with _ | ⟨a, _ | ⟨b, t⟩⟩ <;> simp [quad, duo]
        rw [this]
        by_cases q : duo t = true
        · rw [if_pos q, if_pos q]; rfl
        · rw [if_neg q, if_neg q]
          cases find4 t <;> rfl
      exact ⟨e, by rw [endE, if_pos ⟨rfl, rfl⟩, if_pos rfl, if_pos (by simp [duo])]⟩
    · obtain ⟨h1, h2⟩ := endE_is (d :: t)
      have hd : duo (c :: d :: t) = false := by
        simp only [duo]
        rw [Bool.eq_false_iff]
        intro q
        rw [Bool.and_eq_true] at q
        exact h ⟨by simpa using q.1, by simpa using q.2⟩
      have hq : quad (c :: d :: t) = false := by
        rcases t with _ | ⟨a, _ | ⟨b, t⟩⟩
        · rfl
        · rfl
        · simp only [quad, duo] at hd ⊢
          rw [hd]; rfl
      have e : ∀ st, endE st (c :: d :: t) = find4 (c :: d :: t) := fun st => by
        have h3 : find4 (c :: d :: t) = (find4 (d :: t)).map (· + 1) := by rw [find4, if_neg (by rw [hq]; simp)]
        rw [endE, if_neg h, h1, h3]
      exact ⟨e false, by rw [e true, if_neg (by rw [hd]; simp)]⟩
theorem endE_none : ∀ (s : List UInt8), (endE true s = none → ∀ l ∈ (cutL s).1, l ≠ []) ∧ (endE false s = none → ∀ l ∈ (cutL s).1.tail, l ≠ [])
  | [] => ⟨fun _ => by simp [cutL], fun _ => by simp [cutL]⟩
  | [c] => ⟨fun _ => by simp [cutL], fun _ => by simp [cutL]⟩
  | c :: d :: t => by
    by_cases h : c = 13 ∧ d = 10
    · obtain ⟨h1, h2⟩ := endE_none t
      constructor
      · intro q; rw [endE, if_pos h, if_pos rfl] at q; cases q
      · intro q
        rw [endE, if_pos h, if_neg (by simp)] at q
        rw [cutL, if_pos h]
        exact h1 (by cases e : endE true t with | none => rfl | some x => rw [e] at q; cases q)
    · obtain ⟨h1, h2⟩ := endE_none (d :: t)
      have e : ∀ st, endE st (c :: d :: t) = none → endE false (d :: t) = none := fun st q => by
        rw [endE, if_neg h] at q
        cases e : endE false (d :: t) with | none => rfl | some x => rw [e] at q; cases q
      rw [cutL, if_neg h]
      constructor
      · intro q l hl
        have := h2 (e _ q)
        unfold pushL at hl
        cases hc : (cutL (d :: t)).1 with
        | nil => rw [hc] at hl; cases hl
        | cons a r =>
          rw [hc] at hl this
          rcases List.mem_cons.1 hl with rfl | hl
          · simp
          · exact this l hl
      · intro q l hl
        have := h2 (e _ q)
        unfold pushL at hl
        cases hc : (cutL (d :: t)).1 with
        | nil => rw [hc] at hl; cases hl
        | cons a r =>
          rw [hc] at hl this
          exact this l hl
theorem endE_some : ∀ (s : List UInt8) (st : Bool) (n : Nat), endE st s = some n → ∃ L A, (cutL s).1 = L ++ [] :: A ∧ (∀ l ∈ (if st then L else L.tail), l ≠ []) ∧ (st = false → L ≠ []) ∧ n = (joinL L).length + 2
  | [], st, n, h => by simp [endE] at h
  | [c], st, n, h => by simp [endE] at h
  | c :: d :: t, st, n, h => by
    by_cases q : c = 13 ∧ d = 10
    · rw [endE, if_pos q] at h
      rw [cutL, if_pos q]
      cases st
      · rw [if_neg (by simp)] at h
        cases e : endE true t with
        | none => rw [e] at h; cases h
        | some m =>
          rw [e] at h
          obtain ⟨L, A, h1, h2, -, h4⟩ := endE_some t true m e
          refine ⟨[] :: L, A, by rw [h1]; rfl, by simpa using h2, by simp, ?_⟩
          simp at h
          simp [joinL, crlf] at h4 ⊢
          omega
      · rw [if_pos rfl] at h
        refine ⟨[], (cutL t).1, rfl, by simp, by simp, ?_⟩
        simp at h
        simp [joinL]; omega
    · rw [endE, if_neg q] at h
      rw [cutL, if_neg q]
      cases e : endE false (d :: t) with
      | none => rw [e] at h; cases h
      | some m =>
        rw [e] at h
        obtain ⟨L, A, h1, h2, h3, h4⟩ := endE_some (d :: t) false m e
        cases L with
        | nil => exact absurd rfl (h3 rfl)
        | cons l L =>
          simp only [pushL, h1, List.cons_append]
          refine ⟨(c :: l) :: L, A, rfl, ?_, by simp, ?_⟩
          · simp only [List.tail_cons, Bool.false_eq_true, if_false] at h2
            cases st
            · simpa using h2
            · simp; exact fun x hx => by simpa using h2 x hx
          · simp at h
            simp [joinL] at h4 ⊢
            omega
/-- what the law asks of any text -/
theorem body_law (s : List UInt8) : match endE true s with
    | none => bodyL s = []
    | some n => n ≤ s.length ∧ bodyL s = s.drop n ∧ ∀ y, bodyL (s.take n ++ y) = y ∧ fieldsL (s.take n ++ y) = fieldsL s := by
  cases e : endE true s with
  | none => exact body_none ((endE_none s).1 e)
  | some n =>
    obtain ⟨L, A, h1, h2, -, h4⟩ := endE_some s true n e
    simp only [if_true] at h2
    have hs := head_split h1 h2
    have hn : (joinL L ++ crlf).length = n := by rw [List.length_append, h4]; rfl
    have ht : s.take n = joinL L ++ crlf := by
      conv => lhs; rw [hs]
      rw [← hn, List.take_left]
    have hd : bodyL s = s.drop n := by
      conv => rhs; rw [hs]
      rw [← hn, List.drop_left]
    refine ⟨?_, hd, fun y => ?_⟩
    · have := congrArg List.length hs
      rw [List.length_append, hn] at this
      omega
    · have hc : cutL (s.take n ++ y) = ((L ++ [[]]) ++ (cutL y).1, (cutL y).2) := by
        rw [ht]
        have : joinL L ++ crlf = joinL (L ++ [[]]) := by simp [joinL]
        rw [this]
        exact cut_head2 (s := s) (A := A) (by rw [h1]; simp)
      have hc1 : (cutL (s.take n ++ y)).1 = L ++ [] :: (cutL y).1 := by rw [hc]; simp
      constructor
      · rw [body_at hc1 h2, hc]
        exact (cutL_join y).1
      · unfold fieldsL
        rw [hc1, h1, fs_empty, fs_empty]
end Go.Proofs.YtnkcanhkdfckmaaDoor
