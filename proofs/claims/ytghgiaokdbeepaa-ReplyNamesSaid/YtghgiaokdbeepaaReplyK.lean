/- ReplyBack: what is read of what is shown; what is shown of what was read. -/
import Derived.Test.YtghgiaokdbeepaaReplyJ
namespace Go.Proofs.Ytghgiaokdbeepaa
set_option linter.all false
open Go.RowKit

def nowAt (x : Rep) (k : Nat) : Rep := if k = 0 then Rep.zero else ⟨x.code, [], x.lines.take k⟩
def lastOf (x : Rep) : Rep := ⟨x.code, status x.code (x.lines.getD (x.lines.length - 1) []), x.lines⟩
def rdAt (x : Rep) (k : Nat) : Rd := if k < x.lines.length then ⟨nowAt x k, Rep.zero, false, false⟩ else ⟨Rep.zero, lastOf x, true, false⟩

theorem showBad_not {x : Rep} (h : ¬ showBad x) : 1 ≤ x.lines.length ∧ x.lines.length ≤ 32 ∧ 200 ≤ x.code ∧ x.code ≤ 599 := by
  unfold showBad at h
  have hc : ¬ classOf x.code = 0 := fun e => h (.inr (.inr e))
  unfold classOf at hc
  split at hc <;> omega
theorem rdAt_line {x : Rep} {k : Nat} (hb : ¬ showBad x) (h : (parse (shownAt x k)).err = 0) (hk : k < x.lines.length) :
    (rdAt x k).line (shownAt x k) = (rdAt x (k + 1), decide (k + 1 = x.lines.length), 0) := by
  obtain ⟨h1, h2, h3, h4⟩ := showBad_not hb
  have hp := parse_shown hk ⟨h3, h4⟩ h
  have e0 : rdAt x k = ⟨nowAt x k, Rep.zero, false, false⟩ := if_pos hk
  have hlen : (nowAt x k).lines.length = k := by unfold nowAt; split <;> simp [Rep.zero] <;> omega
  have hcode : (nowAt x k).lines ≠ [] → (nowAt x k).code = x.code := by
    unfold nowAt; split
    · intro h; exact absurd rfl h
    · intro _; rfl
  have hst : (nowAt x k).status = [] := by unfold nowAt; split <;> rfl
  have htake : (nowAt x k).lines ++ [x.lines[k]] = x.lines.take (k + 1) := by
    rw [List.take_succ_eq_append_getElem hk]; unfold nowAt; split
    · rename_i e; subst e; simp [Rep.zero]
    · rfl
  have he : (⟨nowAt x k, Rep.zero, false, false⟩ : Rd).lineErr (parse (shownAt x k)) = 0 := by
    rw [hp]
    unfold Rd.lineErr
    rw [if_neg (by simp), if_neg (by rintro ⟨a, b⟩; exact b (hcode a).symm), if_neg (by rw [hlen]; omega)]
  rw [e0]
  unfold Rd.line
  rw [if_neg (by simp)]
  unfold Rd.lineGo
  rw [he, hp]
  simp only [ne_eq, not_true, if_false, decide_eq_true_eq]
  by_cases hl : k + 1 = x.lines.length
  · rw [if_neg (by omega)]
    have e1 : rdAt x (k + 1) = ⟨Rep.zero, lastOf x, true, false⟩ := if_neg (by omega)
    have e2 : x.lines.getD (x.lines.length - 1) [] = x.lines[k] := by rw [← hl]; simp [hk]
    have e3 : x.lines.take (k + 1) = x.lines := List.take_of_length_le (by omega)
    rw [e1, lastOf, e2, htake, e3, decide_eq_true hl]
  · rw [if_pos (by omega)]
    have e1 : rdAt x (k + 1) = ⟨nowAt x (k + 1), Rep.zero, false, false⟩ := if_pos (by omega)
    rw [e1, hst, htake, decide_eq_false hl]
    rfl
theorem rdAt_zero {x : Rep} (hb : ¬ showBad x) : rdAt x 0 = Rd.zero := by
  obtain ⟨h1, _⟩ := showBad_not hb
  unfold rdAt; rw [if_pos (by omega)]; rfl
theorem rdAt_end (x : Rep) : rdAt x x.lines.length = ⟨Rep.zero, lastOf x, true, false⟩ := if_neg (by omega)
theorem showOf_cases (x : Rep) : (showOf x = [] ∧ (showBad x ∨ ¬ showAll x)) ∨ (¬ showBad x ∧ showAll x ∧ showOf x = showTo x x.lines.length) := by
  unfold showOf
  by_cases h : showBad x
  · rw [if_pos h]; exact .inl ⟨rfl, .inl h⟩
  · rw [if_neg h]
    by_cases h2 : showAll x
    · rw [if_pos h2]; exact .inr ⟨h, h2, rfl⟩
    · rw [if_neg h2]; exact .inl ⟨rfl, .inr h2⟩
/-- the status of the last line that is shown -/
theorem statOf_shown {x : Rep} (hb : ¬ showBad x) (h : showAll x) : statOf (shownAt x (x.lines.length - 1)) = (lastOf x).status := by
  obtain ⟨h1, h2, h3, h4⟩ := showBad_not hb
  have hp := parse_shown (i := x.lines.length - 1) (by omega) ⟨h3, h4⟩ (h _ (by omega))
  unfold statOf lastOf
  have e : Rd.zero.line (shownAt x (x.lines.length - 1)) = ({ Rd.zero with now := Rep.zero, last := ⟨x.code, status x.code (x.lines[x.lines.length - 1]), [x.lines[x.lines.length - 1]]⟩, has := true }, true, 0) := by
    unfold Rd.line
    rw [if_neg (by simp [Rd.zero])]
    unfold Rd.lineGo
    have he : Rd.zero.lineErr (parse (shownAt x (x.lines.length - 1))) = 0 := by rw [hp]; simp [Rd.lineErr, Rd.zero, Rep.zero]
    rw [he, hp]
    have hn : x.lines.length - 1 + 1 = x.lines.length := by omega
    simp [hn, Rd.zero, Rep.zero]
  rw [e]
  simp only [Rd.taken, if_true]
  have hlt : x.lines.length - 1 < x.lines.length := by omega
  simp [hlt]

/-- lines that made a reply -/
structure Made (L : List (List UInt8)) (c : Int) : Prop where
  len : 1 ≤ L.length ∧ L.length ≤ 32
  each : ∀ j (h : j < L.length), (parse L[j]).err = 0 ∧ (parse L[j]).code = c ∧ (parse L[j]).more = decide (j + 1 < L.length)
theorem made_at {L : List (List UInt8)} {c : Int} (h : Made L c) (st : List UInt8) {j : Nat} (hj : j < L.length) :
    (parse (shownAt ⟨c, st, L.map fun s => (parse s).text⟩ j)).err = 0 ∧ (shownAt ⟨c, st, L.map fun s => (parse s).text⟩ j = L[j] ∨ shownAt ⟨c, st, L.map fun s => (parse s).text⟩ j = L[j] ++ [32]) ∧ 200 ≤ c ∧ c ≤ 599 := by
  obtain ⟨h1, h2, h3⟩ := h.each j hj
  obtain ⟨a, b, d, ha, hb, hd, hcode, hl⟩ := parse_shape h1
  have hn := numStr_of ha hb hd
  rw [h2] at hcode
  rw [← hcode] at hn
  have hs : shownAt ⟨c, st, L.map fun s => (parse s).text⟩ j = a :: b :: d :: (if j + 1 = L.length then 32 else 45) :: (parse L[j]).text := by simp [shownAt, hj, hn]
  rw [hs]
  refine ⟨?_, ?_, by omega, by omega⟩
  · rcases hl with ⟨hl, hp⟩ | ⟨m, t, hl, ht, hp⟩
    · rw [hp]
      by_cases e : j + 1 = L.length
      · rw [if_pos e]; rw [show (32 : UInt8) = if false then 45 else 32 from rfl, parse_of false ha hb hd rfl]
      · rw [if_neg e]; rw [show (45 : UInt8) = if true then 45 else 32 from rfl, parse_of true ha hb hd rfl]
    · rw [hp]
      by_cases e : j + 1 = L.length
      · rw [if_pos e]; rw [show (32 : UInt8) = if false then 45 else 32 from rfl, parse_of false ha hb hd ht]
      · rw [if_neg e]; rw [show (45 : UInt8) = if true then 45 else 32 from rfl, parse_of true ha hb hd ht]
  · rcases hl with ⟨hl, hp⟩ | ⟨m, t, hl, ht, hp⟩
    · rw [hp] at h3
      have e : j + 1 = L.length := by simp at h3; omega
      right; rw [if_pos e, hp, hl]; rfl
    · rw [hp] at h3
      left
      rw [hp, hl]
      by_cases e : j + 1 = L.length
      · have hm : m = false := by simpa [e] using h3
        rw [if_pos e, hm]; rfl
      · have hm : m = true := by simp at h3; rw [h3]; simp; omega
        rw [if_neg e, hm]; rfl
theorem made_show {L : List (List UInt8)} {c : Int} (h : Made L c) (st : List UInt8) :
    showOf ⟨c, st, L.map fun s => (parse s).text⟩ = showTo ⟨c, st, L.map fun s => (parse s).text⟩ L.length := by
  obtain ⟨h1, h2⟩ := h.len
  have hc := (made_at h st (j := 0) (by omega)).2.2
  have hb : ¬ showBad ⟨c, st, L.map fun s => (parse s).text⟩ := by
    unfold showBad classOf
    simp only [List.length_map]
    rintro (e | e | e)
    · omega
    · omega
    · split at e <;> omega
  have ha : showAll ⟨c, st, L.map fun s => (parse s).text⟩ := fun i hi => (made_at h st (by simpa using hi)).1
  unfold showOf
  rw [if_neg hb, if_pos ha]
  simp
end Go.Proofs.Ytghgiaokdbeepaa
