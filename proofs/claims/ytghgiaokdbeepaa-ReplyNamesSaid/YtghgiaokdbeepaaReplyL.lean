/- ReplyBack: a reader over any lines. -/
import Derived.Test.YtghgiaokdbeepaaReplyK
namespace Go.Proofs.Ytghgiaokdbeepaa
set_option linter.all false
open Go.RowKit

def seg (l : List (List UInt8)) (a i : Nat) : List (List UInt8) := (l.drop a).take (i - a)
theorem seg_len {l : List (List UInt8)} {a i : Nat} (h1 : a ≤ i) (h2 : i ≤ l.length) : (seg l a i).length = i - a := by simp [seg]; omega
theorem seg_nil (l : List (List UInt8)) (a : Nat) : seg l a a = [] := by simp [seg]
theorem seg_succ {l : List (List UInt8)} {a i : Nat} (h1 : a ≤ i) (h2 : i < l.length) : seg l a (i + 1) = seg l a i ++ [l[i]] := by
  unfold seg
  rw [show i + 1 - a = (i - a) + 1 by omega, List.take_succ_eq_append_getElem (by simp; omega)]
  simp [show a + (i - a) = i by omega]
theorem seg_at {l : List (List UInt8)} {a i j : Nat} (h2 : i ≤ l.length) (hj : j < (seg l a i).length) : ∃ h : a + j < l.length, (seg l a i)[j] = l[a + j] := by
  have h3 : j < i - a ∧ a + j < l.length := by simp [seg] at hj; omega
  exact ⟨h3.2, by simp [seg]⟩

structure Reading (l : List (List UInt8)) (a i : Nat) (m : Rd) : Prop where
  le : a ≤ i ∧ i ≤ l.length ∧ i - a ≤ 32
  clean : m.last = Rep.zero ∧ m.has = false ∧ m.dead = false
  now0 : a = i → m.now = Rep.zero
  now1 : a < i → ∃ c, m.now = ⟨c, [], (seg l a i).map fun s => (parse s).text⟩ ∧ ∀ s, s ∈ seg l a i → (parse s).err = 0 ∧ (parse s).code = c ∧ (parse s).more = true

theorem Reading.len {l : List (List UInt8)} {a i : Nat} {m : Rd} (h : Reading l a i m) : m.now.lines.length = i - a ∧ m.now.status = [] := by
  by_cases e : a = i
  · rw [h.now0 e]; subst e; simp [Rep.zero]
  · obtain ⟨c, hm, _⟩ := h.now1 (by have := h.le; omega)
    rw [hm]; simp [seg_len h.le.1 h.le.2.1]
theorem Reading.texts {l : List (List UInt8)} {a i : Nat} {m : Rd} (h : Reading l a i m) : m.now.lines = (seg l a i).map fun s => (parse s).text := by
  by_cases e : a = i
  · rw [h.now0 e]; subst e; simp [Rep.zero, seg_nil]
  · obtain ⟨c, hm, _⟩ := h.now1 (by have := h.le; omega)
    rw [hm]

theorem reading_step {l : List (List UInt8)} {a i : Nat} {m : Rd} (h : Reading l a i m) (hi : i < l.length) :
    (¬ (m.line l[i]).2.2 = 0 ∧ (m.line l[i]).1.dead = true ∧ (m.line l[i]).2.1 = false) ∨
    ((m.line l[i]).2.2 = 0 ∧ (m.line l[i]).2.1 = false ∧ Reading l a (i + 1) (m.line l[i]).1) ∨
    ((m.line l[i]).2.2 = 0 ∧ (m.line l[i]).2.1 = true ∧ (m.line l[i]).1.has = true ∧ Reading l (i + 1) (i + 1) (m.line l[i]).1.take ∧
      ∃ c st, (m.line l[i]).1.taken = ⟨c, st, (seg l a (i + 1)).map fun s => (parse s).text⟩ ∧ Made (seg l a (i + 1)) c) := by
  have e1 : m.line l[i] = m.lineGo (parse l[i]) := by simp [Rd.line, h.clean.2.2]
  obtain ⟨hlen, hst⟩ := h.len
  have htx := h.texts
  have hsl := seg_len h.le.1 (Nat.le_of_lt hi)
  have hss := seg_succ h.le.1 hi
  rw [e1]
  unfold Rd.lineGo
  by_cases he : m.lineErr (parse l[i]) = 0
  · rw [he]
    simp only [ne_eq, not_true, if_false]
    unfold Rd.lineErr at he
    have hp : (parse l[i]).err = 0 := by
      by_cases hp : (parse l[i]).err = 0
      · exact hp
      · rw [if_pos hp] at he; exact absurd he hp
    rw [if_neg (by simp [hp])] at he
    have hmis : ¬ (m.now.lines ≠ [] ∧ (parse l[i]).code ≠ m.now.code) := by
      intro hh; rw [if_pos hh] at he; cases he
    rw [if_neg hmis] at he
    have h32 : ¬ m.now.lines.length = 32 := by
      intro hh; rw [if_pos hh] at he; cases he
    have hle := h.le
    have hall : ∀ s, s ∈ seg l a i → (parse s).err = 0 ∧ (parse s).code = (parse l[i]).code ∧ (parse s).more = true := by
      intro s hs
      by_cases e : a = i
      · subst e; rw [seg_nil] at hs; cases hs
      · obtain ⟨c, hm, hc⟩ := h.now1 (by omega)
        obtain ⟨x1, x2, x3⟩ := hc s hs
        refine ⟨x1, ?_, x3⟩
        have hne : m.now.lines ≠ [] := by rw [← List.length_pos_iff, hlen]; omega
        have : (parse l[i]).code = m.now.code := by
          by_cases q : (parse l[i]).code = m.now.code
          · exact q
          · exact absurd ⟨hne, q⟩ hmis
        rw [x2, this, hm]
    cases hmore : (parse l[i]).more
    · right; right
      simp only [Bool.false_eq_true, if_false]
      refine ⟨trivial, trivial, trivial, ⟨⟨Nat.le_refl _, hi, by omega⟩, ⟨rfl, rfl, h.clean.2.2⟩, fun _ => rfl, fun hh => by omega⟩, (parse l[i]).code, status (parse l[i]).code (parse l[i]).text, ?_, ?_⟩
      · rw [hss, List.map_append, ← htx]; rfl
      · refine ⟨by rw [hss]; simp; omega, fun j hj => ?_⟩
        rw [hss] at hj
        simp at hj
        by_cases ej : j < (seg l a i).length
        · have e2 : (seg l a (i + 1))[j]'(by rw [hss]; simp; omega) = (seg l a i)[j] := by simp [hss, ej]
          rw [e2]
          obtain ⟨x1, x2, x3⟩ := hall _ (List.getElem_mem ej)
          refine ⟨x1, x2, ?_⟩
          rw [x3]; symm; rw [decide_eq_true_eq, hss]; simp; omega
        · have e3 : j = (seg l a i).length := by omega
          have e2 : (seg l a (i + 1))[j]'(by rw [hss]; simp; omega) = l[i] := by simp [hss, e3]
          rw [e2]
          refine ⟨hp, rfl, ?_⟩
          rw [hmore]; symm; rw [decide_eq_false_iff_not, hss]; simp; omega
    · right; left
      simp only [if_true]
      refine ⟨trivial, trivial, ⟨⟨by omega, by omega, by omega⟩, h.clean, fun hh => by omega, fun _ => ⟨(parse l[i]).code, ?_, ?_⟩⟩⟩
      · rw [hss, List.map_append, ← htx, hst]; rfl
      · intro s hs
        rw [hss, List.mem_append] at hs
        rcases hs with hs | hs
        · exact hall s hs
        · simp at hs; subst hs; exact ⟨hp, rfl, hmore⟩
  · left
    rw [if_pos he]
    exact ⟨he, rfl, rfl⟩
theorem reading_zero (l : List (List UInt8)) : Reading l 0 0 Rd.zero := ⟨⟨Nat.le_refl _, Nat.zero_le _, by omega⟩, ⟨rfl, rfl, rfl⟩, fun _ => rfl, fun h => by omega⟩
/-- what the lines made, as it is shown -/
theorem made_back {l : List (List UInt8)} {a i : Nat} {c : Int} (st : List UInt8) (h1 : a ≤ i) (hi : i < l.length) (h : Made (seg l a (i + 1)) c) :
    (showOf ⟨c, st, (seg l a (i + 1)).map fun s => (parse s).text⟩).length = i + 1 - a ∧
    ∀ k (hk : k < l.length), a ≤ k → k ≤ i → ∃ hs : k - a < (showOf ⟨c, st, (seg l a (i + 1)).map fun s => (parse s).text⟩).length,
      (showOf ⟨c, st, (seg l a (i + 1)).map fun s => (parse s).text⟩)[k - a] = l[k] ∨ (showOf ⟨c, st, (seg l a (i + 1)).map fun s => (parse s).text⟩)[k - a] = l[k] ++ [32] := by
  have hsl := seg_len (l := l) (a := a) (i := i + 1) (by omega) hi
  rw [made_show h st]
  refine ⟨by rw [showTo_len, hsl], fun k hk h2 h3 => ⟨by rw [showTo_len]; omega, ?_⟩⟩
  have hj : k - a < (seg l a (i + 1)).length := by omega
  have hm := (made_at h st hj).2.1
  obtain ⟨hh, e⟩ := seg_at (l := l) (a := a) (i := i + 1) hi hj
  rw [e] at hm
  have e2 : l[a + (k - a)] = l[k] := by congr 1; omega
  rw [e2] at hm
  simpa [showTo] using hm
end Go.Proofs.Ytghgiaokdbeepaa
