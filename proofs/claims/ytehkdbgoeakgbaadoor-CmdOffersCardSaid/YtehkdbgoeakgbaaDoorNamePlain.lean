/- Names, in plain: labels, whether a text is a name. -/
import Derived.Lib.IndexLaws
import Derived.Lib.Strings
import Derived.Lib.IndexMore
namespace Go.Proofs.YtehkdbgoeakgbaaDoor
set_option linter.all false

/-- a text cut at its dots -/
def cut46 : List UInt8 → List (List UInt8)
  | [] => [[]]
  | c :: t => if c = 46 then [] :: cut46 t else match cut46 t with
    | [] => [[c]]
    | h :: r => (c :: h) :: r
theorem cut46_ne (l : List UInt8) : cut46 l ≠ [] := by
  cases l with
  | nil => simp [cut46]
  | cons c t =>
    unfold cut46
    split
    · simp
    · split <;> simp
theorem cut46_dot {a : List UInt8} (h : 46 ∉ a) (b : List UInt8) : cut46 (a ++ 46 :: b) = a :: cut46 b := by
  induction a with
  | nil => simp [cut46]
  | cons c t ih =>
    simp only [List.mem_cons, not_or] at h
    have hc : ¬ c = 46 := fun e => h.1 e.symm
    rw [List.cons_append, cut46, if_neg hc, ih h.2]
theorem cut46_one {a : List UInt8} (h : 46 ∉ a) : cut46 a = [a] := by
  induction a with
  | nil => rfl
  | cons c t ih =>
    simp only [List.mem_cons, not_or] at h
    have hc : ¬ c = 46 := fun e => h.1 e.symm
    rw [cut46, if_neg hc, ih h.2]
theorem cut46_cons {l p : List UInt8} {r : List (List UInt8)} (h : cut46 l = p :: r) : 46 ∉ p ∧ ((r = [] ∧ l = p) ∨ ∃ b, l = p ++ 46 :: b ∧ cut46 b = r) := by
  induction l generalizing p r with
  | nil => simp [cut46] at h; obtain ⟨rfl, rfl⟩ := h; simp
  | cons c t ih =>
    rw [cut46] at h
    split at h
    · rename_i hc
      simp at h
      obtain ⟨rfl, rfl⟩ := h
      exact ⟨by simp, .inr ⟨t, by simp [hc], rfl⟩⟩
    · rename_i hc
      cases e : cut46 t with
      | nil => exact absurd e (cut46_ne t)
      | cons q s =>
        rw [e] at h
        simp only [List.cons.injEq] at h
        obtain ⟨rfl, rfl⟩ := h
        obtain ⟨h1, h2⟩ := ih e
        refine ⟨by simp [h1]; exact fun e => hc e.symm, ?_⟩
        rcases h2 with ⟨rfl, rfl⟩ | ⟨b, rfl, rfl⟩
        · exact .inl ⟨rfl, rfl⟩
        · exact .inr ⟨b, rfl, rfl⟩

def hd46 (l : List UInt8) : List UInt8 := l.takeWhile (fun c => decide (c ≠ 46))
def tl46 (l : List UInt8) : List UInt8 := l.drop ((hd46 l).length + 1)
def has46 (l : List UInt8) : Bool := l.contains 46
theorem hd46_of {a b : List UInt8} (h : 46 ∉ a) : hd46 (a ++ 46 :: b) = a ∧ tl46 (a ++ 46 :: b) = b ∧ has46 (a ++ 46 :: b) = true := by
  have e : hd46 (a ++ 46 :: b) = a := by
    unfold hd46
    rw [List.takeWhile_append_of_pos (by intro c hc; simp; rintro rfl; exact h hc)]
    simp
  refine ⟨e, ?_, by simp [has46]⟩
  unfold tl46; rw [e]; simp
theorem hd46_none {a : List UInt8} (h : 46 ∉ a) : hd46 a = a ∧ tl46 a = [] ∧ has46 a = false := by
  have e : hd46 a = a := by
    have := List.takeWhile_append_of_pos (l₁ := a) (l₂ := []) (p := fun c : UInt8 => decide (c ≠ 46)) (by intro c hc; simp; rintro rfl; exact h hc)
    simpa [hd46] using this
  exact ⟨e, by unfold tl46; rw [e]; simp, by simp [has46, h]⟩
theorem cut46_eq (l : List UInt8) : cut46 l = if has46 l then hd46 l :: cut46 (tl46 l) else [l] := by
  cases e : cut46 l with
  | nil => exact absurd e (cut46_ne l)
  | cons p r =>
    obtain ⟨h1, h2⟩ := cut46_cons e
    rcases h2 with ⟨rfl, rfl⟩ | ⟨b, rfl, rfl⟩
    · obtain ⟨_, _, h5⟩ := hd46_none h1
      rw [h5]; rfl
    · obtain ⟨h3, h4, h5⟩ := hd46_of (b := b) h1
      rw [h3, h4, h5]; rfl
theorem tl46_len {l : List UInt8} (h : has46 l = true) : (tl46 l).length < l.length := by
  cases l with
  | nil => simp [has46] at h
  | cons c t => unfold tl46; simp; omega
theorem tl46_le (l : List UInt8) : (tl46 l).length ≤ l.length := by unfold tl46; simp
theorem hd46_le (l : List UInt8) : (hd46 l).length ≤ l.length := by
  unfold hd46; exact (List.takeWhile_sublist _).length_le
/-- what is found of a dot, by place -/
theorem dot_place (l : List UInt8) : (Lib.indexByte l 46 < 0 ∧ 46 ∉ l) ∨ ∃ o : Nat, o < l.length ∧ Lib.indexByte l 46 = o ∧ l.take o = hd46 l ∧ l.drop (o + 1) = tl46 l ∧ has46 l = true := by
  by_cases h : Lib.indexByte l 46 = -1
  · left
    refine ⟨by omega, fun hm => ?_⟩
    obtain ⟨k, hk, e⟩ := List.mem_iff_getElem.1 hm
    exact Lib.indexByte_none h k (by rw [List.getElem?_eq_getElem hk, e])
  · right
    have hg := Lib.indexByte_ge l 46
    obtain ⟨o, ho⟩ : ∃ o : Nat, Lib.indexByte l 46 = o := ⟨(Lib.indexByte l 46).toNat, by omega⟩
    obtain ⟨h1, h2⟩ := Lib.indexByte_some ho
    have hlt : o < l.length := by
      rcases Nat.lt_or_ge o l.length with h' | h'
      · exact h'
      · rw [List.getElem?_eq_none h'] at h1; cases h1
    have e : l = l.take o ++ 46 :: l.drop (o + 1) := by
      have h3 : l[o] = 46 := by rw [List.getElem?_eq_getElem hlt] at h1; simpa using h1
      have := (List.take_append_drop o l).symm
      rw [List.drop_eq_getElem_cons hlt, h3] at this
      exact this
    have hn : 46 ∉ l.take o := by
      intro hm
      obtain ⟨k, hk, hx⟩ := List.mem_iff_getElem.1 hm
      have hko : k < o := by simp at hk; omega
      refine h2 k hko ?_
      rw [List.getElem_take] at hx
      rw [List.getElem?_eq_getElem (by omega), hx]
    obtain ⟨p1, p2, p3⟩ := hd46_of (b := l.drop (o + 1)) hn
    rw [← e] at p1 p2 p3
    exact ⟨o, hlt, ho, p1.symm, p2.symm, p3⟩

/-- the text from the k-th label on -/
def sfx (l : List UInt8) : Nat → List UInt8
  | 0 => l
  | k + 1 => tl46 (sfx l k)
theorem sfx_le (l : List UInt8) (k : Nat) : (sfx l k).length ≤ l.length := by
  induction k with
  | zero => exact Nat.le_refl _
  | succ k ih => exact Nat.le_trans (tl46_le _) ih
theorem sfx_cut (l : List UInt8) : ∀ k, k < (cut46 l).length → cut46 (sfx l k) = (cut46 l).drop k := by
  intro k
  induction k with
  | zero => intro _; rfl
  | succ k ih =>
    intro h
    have h1 := ih (by omega)
    rw [cut46_eq] at h1
    split at h1
    · have := congrArg (List.drop 1) h1
      simpa [sfx] using this
    · have := congrArg List.length h1
      simp at this; omega
theorem sfx_at (l : List UInt8) (k : Nat) (h : k < (cut46 l).length) : hd46 (sfx l k) = (cut46 l)[k] ∧ has46 (sfx l k) = decide (k + 1 < (cut46 l).length) := by
  have h1 := sfx_cut l k h
  rw [List.drop_eq_getElem_cons h, cut46_eq] at h1
  split at h1
  · rename_i hh
    simp only [List.cons.injEq] at h1
    refine ⟨h1.1, ?_⟩
    rw [hh]; symm; rw [decide_eq_true_eq]
    have h2 := h1.2
    rcases Nat.lt_or_ge (k + 1) (cut46 l).length with h' | h'
    · exact h'
    · rw [List.drop_eq_nil_of_le h'] at h2; exact absurd h2 (cut46_ne _)
  · rename_i hh
    simp only [List.cons.injEq] at h1
    have hn : 46 ∉ sfx l k := by simpa [has46] using hh
    refine ⟨by rw [(hd46_none hn).1]; exact h1.1, ?_⟩
    have hf : has46 (sfx l k) = false := by simpa using hh
    rw [hf]; symm; rw [decide_eq_false_iff_not]
    intro h'
    have := congrArg List.length h1.2
    simp at this; omega

def dig (c : UInt8) : Bool := decide (48 ≤ c.toNat ∧ c.toNat ≤ 57)
def lab (c : UInt8) : Bool := decide (48 ≤ c.toNat ∧ c.toNat ≤ 57) || (decide (97 ≤ c.toNat ∧ c.toNat ≤ 122) || decide (c.toNat = 45))
def labelOk (l : List UInt8) : Bool := decide (1 ≤ l.length ∧ l.length ≤ 63 ∧ ¬ (l.getD 0 0).toNat = 45 ∧ ¬ (l.getD (l.length - 1) 0).toNat = 45) && l.all lab
/-- is it a name? -/
def may (l : List UInt8) : Bool := decide (l.length ≤ 253) && (cut46 l).all labelOk && !((cut46 l).getLast (cut46_ne l)).all dig
end Go.Proofs.YtehkdbgoeakgbaaDoor
