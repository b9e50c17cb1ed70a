/- cmd, plain: a text begins by one path at most. -/
import Derived.Test.YtehkdbgoeakgbaaGreatDoorCmBd
namespace Go.Proofs.YtehkdbgoeakgbaaGreatDoor
set_option linter.all false
open Go.RowKit

theorem eachRun_app2 {f : Bool → UInt8 → Bool × Bool} : ∀ (a b : List UInt8) (st : Bool), (eachRun f st (a ++ b)).1 = ((eachRun f st a).1 && (eachRun f (eachRun f st a).2 b).1)
  | [], b, st => by simp [eachRun]
  | c :: a, b, st => by
    simp only [List.cons_append, eachRun]
    cases h : (f st c).1
    · rfl
    · exact eachRun_app2 a b _
theorem eachRun_mem {f : Bool → UInt8 → Bool × Bool} : ∀ {s : List UInt8} {st : Bool} {c : UInt8}, (eachRun f st s).1 = true → c ∈ s → ∃ st', (f st' c).1 = true
  | d :: s, st, c, h, hc => by
    simp only [eachRun] at h
    cases h1 : (f st d).1
    · rw [h1] at h; cases h
    · rw [h1] at h
      rcases List.mem_cons.1 hc with rfl | hc
      · exact ⟨st, h1⟩
      · exact eachRun_mem h hc
theorem atoms_not {s : List UInt8} (h : atomsB s = true) : (∀ c, c ∈ s → c ≠ 64) ∧ (∀ c, c ∈ s → c ≠ 62) ∧ (∀ c, c ∈ s → c ≠ 34) := by
  unfold atomsB at h
  rw [Bool.and_eq_true] at h
  have k : ∀ d : UInt8, (∀ st, (stepA st d).1 = false) → ∀ c, c ∈ s → c ≠ d := by
    rintro d hd c hc rfl
    obtain ⟨st, h2⟩ := eachRun_mem h.1 hc
    rw [hd st] at h2; cases h2
  exact ⟨k 64 (by decide), k 62 (by decide), k 34 (by decide)⟩
theorem quoted_form {s : List UInt8} (h : quotedB s = true) : ∃ q, s = 34 :: (q ++ [34]) ∧ (eachRun stepQ false q).1 = true ∧ (eachRun stepQ false q).2 = false := by
  unfold quotedB at h
  simp only [Bool.and_eq_true, Bool.not_eq_true'] at h
  obtain ⟨h1, h2, h3, h4⟩ := h
  refine ⟨_, ?_, h3, h4⟩
  conv => lhs; rw [cutPre_true h1, cutSuf_true h2]
theorem quoted_cut {q z : List UInt8} (hq : (eachRun stepQ false q).1 = true) (hm : (eachRun stepQ false q).2 = false) (hz : z ≠ []) : quotedB (34 :: (q ++ 34 :: z)) = false := by
  cases h : quotedB (34 :: (q ++ 34 :: z)) with
  | false => rfl
  | true =>
    exfalso
    obtain ⟨q2, e, r1, -⟩ := quoted_form h
    simp only [List.cons.injEq, true_and] at e
    obtain ⟨z', c, rfl⟩ : ∃ z' c, z = z' ++ [c] := ⟨z.dropLast, z.getLast hz, (List.dropLast_concat_getLast hz).symm⟩
    have e2 : (q ++ 34 :: z') ++ [c] = q2 ++ [34] := by rw [← e]; simp
    obtain ⟨e3, -⟩ := List.append_inj' e2 rfl
    rw [← e3, eachRun_app2, hq, hm] at r1
    simp [eachRun, stepQ] at r1
theorem split_at {s : List UInt8} {i : Nat} (h : lastAt s = i + 1) : s = s.take i ++ 64 :: s.drop (i + 1) ∧ ∀ c, c ∈ s.drop (i + 1) → c ≠ 64 := by
  obtain ⟨h1, h2, h3⟩ := lastAt_succ h
  constructor
  · conv => lhs; rw [← List.take_append_drop i s, List.drop_eq_getElem_cons h1, h2]
  · intro c hc
    obtain ⟨j, hj, rfl⟩ := List.mem_iff_getElem.1 hc
    rw [List.getElem_drop]
    exact h3 _ _ (by omega)
theorem parse_kind {s : List UInt8} (h : parseB s = true) : ∃ i, lastAt s = i + 1 ∧ 1 ≤ i ∧ (atomsB (s.take i) = true ∨ quotedB (s.take i) = true) ∧ may (folded (s.drop (i + 1))) = true := by
  unfold parseB locOk at h
  simp only [Bool.and_eq_true, Bool.or_eq_true, decide_eq_true_eq] at h
  obtain ⟨⟨⟨n2, n65⟩, -, hk⟩, hm⟩ := h
  refine ⟨lastAt s - 1, by omega, by omega, hk, ?_⟩
  rw [show lastAt s - 1 + 1 = lastAt s by omega]
  exact hm
theorem folded_62 {l : List UInt8} (h : (62 : UInt8) ∈ l) : (62 : UInt8) ∈ folded l := by
  unfold folded
  rw [List.mem_map]
  refine ⟨62, ?_, by decide⟩
  rw [trim_suf]
  unfold cutSuf
  split
  · rename_i e
    obtain ⟨ne, he⟩ : ∃ ne : l ≠ [], l.getLast ne = 46 := by
      refine ⟨by rintro rfl; simp at e, ?_⟩
      rw [List.getLast?_eq_some_getLast (by rintro rfl; simp at e)] at e
      simpa using e
    have hd := List.dropLast_concat_getLast ne
    rw [← hd, he] at h
    rcases List.mem_append.1 h with h | h
    · exact h
    · simp at h
  · exact h
theorem may_not62 {l : List UInt8} (h : may l = true) : (62 : UInt8) ∉ l := by
  intro hc
  unfold may at h
  simp only [Bool.and_eq_true] at h
  have hall := List.all_eq_true.1 h.1.2
  obtain ⟨a, ha, hca⟩ : ∃ a, a ∈ cut46 l ∧ (62 : UInt8) ∈ a := by
    clear h hall
    induction l with
    | nil => cases hc
    | cons d l ih =>
      rw [cut46]
      by_cases hd : d = 46
      · rw [if_pos hd]
        rcases List.mem_cons.1 hc with q | q
        · rw [← q] at hd; cases hd
        · obtain ⟨a, h1, h2⟩ := ih q
          exact ⟨a, by simp [h1], h2⟩
      · rw [if_neg hd]
        cases e : cut46 l with
        | nil => exact absurd e (cut46_ne l)
        | cons t r =>
          simp only
          rcases List.mem_cons.1 hc with q | q
          · exact ⟨d :: t, by simp, by rw [q]; simp⟩
          · obtain ⟨a, h1, h2⟩ := ih q
            rw [e] at h1
            rcases List.mem_cons.1 h1 with rfl | h1
            · exact ⟨d :: a, by simp, by simp [h2]⟩
            · exact ⟨a, by simp [h1], h2⟩
  have := hall a ha
  unfold labelOk at this
  rw [Bool.and_eq_true] at this
  have := List.all_eq_true.1 this.2 62 hca
  exact absurd this (by decide)
theorem one_path {x z : List UInt8} (hx : (x.isEmpty || parseB x) = true) (hy : parseB (x ++ 62 :: z) = true) : False := by
  obtain ⟨i, hi, hi1, hk, hm⟩ := parse_kind hy
  have hle := lastAt_le (x ++ 62 :: z)
  rw [hi] at hle
  rcases Bool.or_eq_true_iff.1 hx with hx | hx
  · have hx0 : x = [] := List.isEmpty_iff.1 hx
    subst hx0
    obtain ⟨j, rfl⟩ : ∃ j, i = j + 1 := ⟨i - 1, by omega⟩
    rw [List.nil_append, List.take_succ_cons] at hk
    rcases hk with hk | hk
    · exact (atoms_not hk).2.1 62 (by simp) rfl
    · obtain ⟨q, e, -⟩ := quoted_form hk
      simp at e
  · obtain ⟨k, ha, hk1, hkx, -⟩ := parse_kind hx
    obtain ⟨ex, hnd⟩ := split_at ha
    generalize hlx : x.take k = lx at ex hkx
    generalize x.drop (k + 1) = dx at ex hnd
    have hll : lx ≠ [] := by
      rintro rfl
      have := lastAt_le x
      rw [ha] at this
      have h2 := congrArg List.length hlx
      rw [List.length_take, List.length_nil] at h2
      omega
    subst ex
    have ey : lx ++ 64 :: dx ++ 62 :: z = lx ++ 64 :: (dx ++ 62 :: z) := by simp
    rw [ey] at hi hk hm hle
    by_cases h64 : ∀ c, c ∈ z → c ≠ 64
    · have hla := lastAt_app lx (dx ++ 62 :: z) (by
        intro c hc
        rcases List.mem_append.1 hc with hc | hc
        · exact hnd c hc
        · rcases List.mem_cons.1 hc with rfl | hc
          · decide
          · exact h64 c hc)
      rw [hi] at hla
      have hil : i = lx.length := by omega
      subst hil
      have hd : (lx ++ 64 :: (dx ++ 62 :: z)).drop (lx.length + 1) = dx ++ 62 :: z := by
        rw [show lx ++ 64 :: (dx ++ 62 :: z) = (lx ++ [64]) ++ (dx ++ 62 :: z) by simp, show lx.length + 1 = (lx ++ [64]).length by simp, List.drop_left]
      rw [hd] at hm
      exact may_not62 hm (folded_62 (by simp))
    · have hilt : lx.length < i := by
        rcases Nat.lt_or_ge lx.length i with q | q
        · exact q
        · exfalso
          apply h64
          intro c hc
          obtain ⟨-, hn⟩ := split_at hi
          refine hn c ?_
          have : (lx ++ 64 :: (dx ++ 62 :: z)).drop (i + 1) = (lx ++ [64]).drop (i + 1) ++ (dx ++ 62 :: z) := by
            rw [show lx ++ 64 :: (dx ++ 62 :: z) = (lx ++ [64]) ++ (dx ++ 62 :: z) by simp, List.drop_append_of_le_length (by simp; omega)]
          rw [this]
          simp [hc]
      obtain ⟨w, hw⟩ : ∃ w, (lx ++ 64 :: (dx ++ 62 :: z)).take i = lx ++ 64 :: w := by
        refine ⟨(dx ++ 62 :: z).take (i - lx.length - 1), ?_⟩
        rw [List.take_append, List.take_of_length_le (by omega)]
        congr 1
        obtain ⟨j, hj⟩ : ∃ j, i - lx.length = j + 1 := ⟨i - lx.length - 1, by omega⟩
        rw [hj, List.take_succ_cons]
        rfl
      rw [hw] at hk
      rcases hk with hk | hk
      · exact (atoms_not hk).1 64 (by simp) rfl
      · rcases hkx with hkx | hkx
        · obtain ⟨q, e, -⟩ := quoted_form hk
          cases lx with
          | nil => exact hll rfl
          | cons c t =>
            simp only [List.cons_append, List.cons.injEq] at e
            exact (atoms_not hkx).2.2 c (by simp) e.1
        · obtain ⟨q, e, r1, r2⟩ := quoted_form hkx
          rw [e] at hk
          have := quoted_cut (q := q) (z := 64 :: w) r1 r2 (by simp)
          rw [show 34 :: (q ++ [34]) ++ 64 :: w = 34 :: (q ++ 34 :: (64 :: w)) by simp] at hk
          rw [hk] at this; cases this
theorem un_form {t : List UInt8} (h : unB t = true) : t = 60 :: (unL t ++ [62]) ∧ ((unL t).isEmpty || parseB (unL t)) = true := by
  obtain ⟨h1, h2⟩ := path_un h
  refine ⟨?_, h2⟩
  conv => lhs; rw [← h1]
  unfold pathL
  rw [h2]; rfl
/-- of the paths that a text begins by there is one at most -/
theorem path_one {s : List UInt8} {i j : Nat} (hi : unB (s.take i) = true) (hj : unB (s.take j) = true) (hjl : j ≤ s.length) : ¬ i < j := by
  intro hlt
  obtain ⟨e1, p1⟩ := un_form hi
  obtain ⟨e2, p2⟩ := un_form hj
  generalize unL (s.take i) = x at e1 p1
  generalize unL (s.take j) = y at e2 p2
  have e3 : s.take j = s.take i ++ (s.take j).drop i := by
    conv => lhs; rw [← List.take_append_drop i (s.take j)]
    rw [List.take_take, Nat.min_eq_left (by omega)]
  rw [e2, e1] at e3
  have hne : (60 :: (y ++ [62])).drop i ≠ [] := by
    intro q
    have h1 := congrArg List.length q
    have h2 := congrArg List.length e2
    rw [List.length_drop, List.length_nil] at h1
    rw [List.length_take, Nat.min_eq_left hjl] at h2
    omega
  generalize (60 :: (y ++ [62])).drop i = r at e3 hne
  obtain ⟨r', c, rfl⟩ : ∃ z' c, r = z' ++ [c] := ⟨r.dropLast, r.getLast hne, (List.dropLast_concat_getLast hne).symm⟩
  simp only [List.cons_append, List.cons.injEq, true_and] at e3
  have e4 : y ++ [62] = (x ++ 62 :: r') ++ [c] := by rw [e3]; simp
  obtain ⟨e5, -⟩ := List.append_inj' e4 rfl
  subst e5
  refine one_path (z := r') p1 ?_
  have : (x ++ 62 :: r').isEmpty = false := by cases x <;> rfl
  rw [this] at p2
  simpa using p2
theorem un_of {x : List UInt8} (h : (x.isEmpty || parseB x) = true) : unB (60 :: (x ++ [62])) = true ∧ unL (60 :: (x ++ [62])) = x := by
  have e1 : cutPre 60 (60 :: (x ++ [62])) = (x ++ [62], true) := by simp [cutPre]
  have e2 : cutSuf 62 (x ++ [62]) = (x, true) := by unfold cutSuf; rw [if_pos (by simp)]; simp
  have e3 : unL (60 :: (x ++ [62])) = x := by unfold unL; rw [e1]; simp only; rw [e2]
  refine ⟨?_, e3⟩
  unfold unB
  rw [e3, e1]
  simp only
  rw [e2, h]; rfl
/-! a path has no byte that is not 32 to 126 -/
def prB (c : UInt8) : Bool := decide (32 ≤ c.toNat ∧ c.toNat ≤ 126)
theorem of256 {p : UInt8 → Bool} (h : ∀ n : Nat, n < 256 → p (UInt8.ofNat n) = true) (c : UInt8) : p c = true := by
  have := h c.toNat (UInt8.toNat_lt c)
  simpa using this
theorem stepA_pr (st : Bool) (c : UInt8) (h : (stepA st c).1 = true) : prB c = true := by
  have h1 := of256 (p := fun c => !(stepA true c).1 || prB c) (by decide +kernel) c
  have h2 := of256 (p := fun c => !(stepA false c).1 || prB c) (by decide +kernel) c
  cases st
  · rw [h] at h2; simpa using h2
  · rw [h] at h1; simpa using h1
theorem stepQ_pr (st : Bool) (c : UInt8) (h : (stepQ st c).1 = true) : prB c = true := by
  have h1 := of256 (p := fun c => !(stepQ true c).1 || prB c) (by decide +kernel) c
  have h2 := of256 (p := fun c => !(stepQ false c).1 || prB c) (by decide +kernel) c
  cases st
  · rw [h] at h2; simpa using h2
  · rw [h] at h1; simpa using h1
theorem may_mem {l : List UInt8} (h : may l = true) {c : UInt8} (hc : c ∈ l) : c = 46 ∨ lab c = true := by
  by_cases h46 : c = 46
  · exact .inl h46
  right
  unfold may at h
  simp only [Bool.and_eq_true] at h
  have hall := List.all_eq_true.1 h.1.2
  obtain ⟨a, ha, hca⟩ : ∃ a, a ∈ cut46 l ∧ c ∈ a := by
    clear h hall
    induction l with
    | nil => cases hc
    | cons d l ih =>
      rw [cut46]
      by_cases hd : d = 46
      · rw [if_pos hd]
        rcases List.mem_cons.1 hc with q | q
        · exact absurd (q.trans hd) h46
        · obtain ⟨a, h1, h2⟩ := ih q
          exact ⟨a, by simp [h1], h2⟩
      · rw [if_neg hd]
        cases e : cut46 l with
        | nil => exact absurd e (cut46_ne l)
        | cons t r =>
          simp only
          rcases List.mem_cons.1 hc with q | q
          · exact ⟨d :: t, by simp, by rw [q]; simp⟩
          · obtain ⟨a, h1, h2⟩ := ih q
            rw [e] at h1
            rcases List.mem_cons.1 h1 with rfl | h1
            · exact ⟨d :: a, by simp, by simp [h2]⟩
            · exact ⟨a, by simp [h1], h2⟩
  have := hall a ha
  unfold labelOk at this
  rw [Bool.and_eq_true] at this
  exact List.all_eq_true.1 this.2 c hca
theorem may_pr {l : List UInt8} (h : may l = true) : ∀ c ∈ l, prB c = true := by
  intro c hc
  have := of256 (p := fun c => !(c == 46 || lab c) || prB c) (by decide +kernel) c
  rcases may_mem h hc with q | q
  · subst q; decide
  · rw [q] at this; simpa using this
theorem dom_pr {d : List UInt8} (h : may (folded d) = true) : ∀ c ∈ d, prB c = true := by
  intro c hc
  have hk := of256 (p := fun c => !(prB (low c)) || prB c) (by decide +kernel) c
  by_cases h46 : c = 46
  · subst h46; decide
  have : low c ∈ folded d := by
    unfold folded
    rw [List.mem_map]
    refine ⟨c, ?_, rfl⟩
    rw [trim_suf]
    unfold cutSuf
    split
    · rename_i e
      obtain ⟨ne, he⟩ : ∃ ne : d ≠ [], d.getLast ne = 46 := by
        refine ⟨by rintro rfl; simp at e, ?_⟩
        rw [List.getLast?_eq_some_getLast (by rintro rfl; simp at e)] at e
        simpa using e
      have hd := List.dropLast_concat_getLast ne
      rw [← hd, he] at hc
      rcases List.mem_append.1 hc with hc | hc
      · exact hc
      · simp at hc; exact absurd hc h46
    · exact hc
  rw [may_pr h _ this] at hk
  simpa using hk
theorem addr_pr {x : List UInt8} (h : parseB x = true) : ∀ c ∈ x, prB c = true := by
  obtain ⟨i, hi, -, hk, hm⟩ := parse_kind h
  obtain ⟨e, -⟩ := split_at hi
  intro c hc
  rw [e] at hc
  rcases List.mem_append.1 hc with hc | hc
  · rcases hk with hk | hk
    · unfold atomsB at hk
      rw [Bool.and_eq_true] at hk
      obtain ⟨st, h2⟩ := eachRun_mem hk.1 hc
      exact stepA_pr st c h2
    · obtain ⟨q, e2, r1, -⟩ := quoted_form hk
      rw [e2] at hc
      rcases List.mem_cons.1 hc with rfl | hc
      · decide
      · rcases List.mem_append.1 hc with hc | hc
        · obtain ⟨st, h2⟩ := eachRun_mem r1 hc
          exact stepQ_pr st c h2
        · simp at hc; subst hc; decide
  · rcases List.mem_cons.1 hc with rfl | hc
    · decide
    · exact dom_pr hm c hc
end Go.Proofs.YtehkdbgoeakgbaaGreatDoor
