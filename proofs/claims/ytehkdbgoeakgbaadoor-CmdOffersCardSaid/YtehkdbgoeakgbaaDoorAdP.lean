/- addr, plain: what was parsed, shown, is the same; a path's address has that path. -/
import Derived.Test.YtehkdbgoeakgbaaDoorAdE
namespace Go.Proofs.YtehkdbgoeakgbaaDoor
set_option linter.all false
open Go.RowKit

theorem un_path {s : List UInt8} (h : (s.isEmpty || parseB s) = true) : pathL s = 60 :: s ++ [62] ∧ unV (60 :: s ++ [62]) = .tuple #[.string ⟨s.toArray⟩, .int .i64 0] := by
  have e1 : cutPre 60 (60 :: s ++ [62]) = (s ++ [62], true) := by simp [cutPre]
  have e2 : cutSuf 62 (s ++ [62]) = (s, true) := by unfold cutSuf; rw [if_pos (by simp)]; simp
  have e3 : unL (60 :: s ++ [62]) = s := by unfold unL; rw [e1]; simp only; rw [e2]
  refine ⟨by unfold pathL; rw [h]; rfl, ?_⟩
  rw [unV_yes, e3]
  unfold unB
  rw [e3, e1]
  simp only
  rw [e2, h]; rfl
theorem un_empty : unV [] = .tuple #[.string ⟨#[]⟩, .int .i64 4] := by kernel_rfl
theorem cutPre_true {p : UInt8} {s : List UInt8} (h : (cutPre p s).2 = true) : s = p :: (cutPre p s).1 := by
  cases s with
  | nil => simp [cutPre] at h
  | cons c r =>
    unfold cutPre at h ⊢
    by_cases e : c = p
    · simp only [if_pos e] at h ⊢; rw [e]
    · simp [e] at h
theorem cutSuf_true {p : UInt8} {s : List UInt8} (h : (cutSuf p s).2 = true) : s = (cutSuf p s).1 ++ [p] := by
  have h2 : s.getLast? = some p := by rw [cutSuf_snd] at h; simpa using h
  unfold cutSuf
  rw [if_pos h2]
  have hne : s ≠ [] := by rintro rfl; simp at h2
  have := List.dropLast_concat_getLast hne
  rw [List.getLast?_eq_some_getLast hne] at h2
  simp only [Option.some.injEq] at h2
  rw [← h2]; exact this.symm
theorem path_un {t : List UInt8} (h : unB t = true) : pathL (unL t) = t ∧ ((unL t).isEmpty || parseB (unL t)) = true := by
  unfold unB at h
  simp only [Bool.and_eq_true] at h
  obtain ⟨h1, h2, h3⟩ := h
  refine ⟨?_, h3⟩
  unfold pathL
  rw [h3]
  show 60 :: (unL t) ++ [62] = t
  conv => rhs; rw [cutPre_true h1, cutSuf_true h2]
  rfl
theorem low_64 (c : UInt8) : low c = 64 ↔ c = 64 := by
  constructor
  · intro h
    have h2 := congrArg UInt8.toNat h
    rw [low_toNat] at h2
    have h3 : (64 : UInt8).toNat = 64 := rfl
    rw [h3] at h2
    split at h2
    · omega
    · exact UInt8.toNat_inj.1 h2
  · rintro rfl; rfl
theorem low_46 (c : UInt8) : low c = 46 ↔ c = 46 := by
  constructor
  · intro h
    have h2 := congrArg UInt8.toNat h
    rw [low_toNat] at h2
    have h3 : (46 : UInt8).toNat = 46 := rfl
    rw [h3] at h2
    split at h2
    · omega
    · exact UInt8.toNat_inj.1 h2
  · rintro rfl; rfl
theorem low_low (c : UInt8) : low (low c) = low c := by
  apply UInt8.toNat_inj.1
  rw [low_toNat (low c), low_toNat]
  split
  · rw [if_neg (by omega)]
  · rfl
theorem lastAt_none : ∀ {s : List UInt8}, (∀ c, c ∈ s → c ≠ 64) → lastAt s = 0
  | [], _ => rfl
  | c :: r, h => by
    have hr := lastAt_none (s := r) (fun d hd => h d (by simp [hd]))
    unfold lastAt
    rw [hr]
    simp [h c (by simp)]
theorem lastAt_app : ∀ (l d : List UInt8), (∀ c, c ∈ d → c ≠ 64) → lastAt (l ++ 64 :: d) = l.length + 1
  | [], d, h => by
    show lastAt (64 :: d) = 1
    unfold lastAt
    rw [lastAt_none h]; rfl
  | c :: r, d, h => by
    show lastAt (c :: (r ++ 64 :: d)) = _
    unfold lastAt
    rw [lastAt_app r d h]
    rfl
theorem may_ne {l : List UInt8} (h : may l = true) : l ≠ [] := by
  rintro rfl
  revert h
  decide +kernel
/-- an address's parts -/
structure Parts (s : List UInt8) : Prop where
  len : s.length = (locL s).length + 1 + (domL s).length
  one : 1 ≤ (locL s).length
  most : (locL s).length ≤ 64
  name : may (domL s) = true
  shows : showB (locL s) (domL s) = true
  same : sameB s (locL s ++ 64 :: domL s) = true
theorem parts_of {s : List UInt8} (h : parseB s = true) : Parts s := by
  have h0 := h
  unfold parseB at h
  simp only [Bool.and_eq_true] at h
  obtain ⟨hl, hm⟩ := h
  have hm' : may (domL s) = true := hm
  unfold locOk at hl
  simp only [Bool.and_eq_true, decide_eq_true_eq] at hl
  obtain ⟨⟨n2, n65⟩, hdot, hk⟩ := hl
  have hle := lastAt_le s
  have hll : (locL s).length = lastAt s - 1 := by unfold locL; simp; omega
  have hdne := may_ne hm'
  have hd0 : s.drop (lastAt s) ≠ [] := by
    intro e
    apply hdne
    unfold domL
    rw [e]; rfl
  have hlast : (s.drop (lastAt s)).getLast? = s.getLast? := by
    conv => rhs; rw [← List.take_append_drop (lastAt s) s]
    rw [List.getLast?_append]
    cases e : (s.drop (lastAt s)).getLast? with
    | none => exact absurd (List.getLast?_eq_none_iff.1 e) hd0
    | some c => simp
  have hnd : ¬ s.getLast? = some 46 := by simpa using hdot
  have hdom : domL s = (s.drop (lastAt s)).map low := by
    unfold domL folded
    rw [trim_suf]
    unfold cutSuf
    rw [if_neg (by rw [hlast]; exact hnd)]
  have hdl : (domL s).length = s.length - lastAt s := by rw [hdom]; simp
  have hno : ∀ c, c ∈ domL s → c ≠ 64 := by
    intro c hc
    rw [hdom] at hc
    obtain ⟨b, hb, rfl⟩ := List.mem_map.1 hc
    intro e
    rw [low_64] at e
    subst e
    obtain ⟨j, hj, he⟩ := List.mem_iff_getElem.1 hb
    cases q : lastAt s with
    | zero => omega
    | succ i =>
      obtain ⟨q1, q2, q3⟩ := lastAt_succ q
      simp only [List.getElem_drop] at he
      simp only [List.length_drop] at hj
      exact q3 (lastAt s + j) (by omega) (by omega) he
  have hX : lastAt (locL s ++ 64 :: domL s) = (locL s).length + 1 := lastAt_app _ _ hno
  have hXl : locL (locL s ++ 64 :: domL s) = locL s := by
    show (locL s ++ 64 :: domL s).take (lastAt (locL s ++ 64 :: domL s) - 1) = locL s
    rw [hX]; simp
  have hddot : ¬ (domL s).getLast? = some 46 := by
    rw [hdom, List.getLast?_map]
    intro e
    cases q : (s.drop (lastAt s)).getLast? with
    | none => rw [q] at e; simp at e
    | some c =>
      rw [q] at e
      simp only [Option.map_some, Option.some.injEq] at e
      rw [low_46] at e
      apply hnd
      rw [← hlast, q, e]
  have hfd : folded (domL s) = domL s := by
    unfold folded
    rw [trim_suf]
    unfold cutSuf
    rw [if_neg hddot]
    show (domL s).map low = domL s
    rw [hdom, List.map_map]
    apply List.map_congr_left
    intro c _
    exact low_low c
  have hXd : domL (locL s ++ 64 :: domL s) = domL s := by
    show folded ((locL s ++ 64 :: domL s).drop (lastAt (locL s ++ 64 :: domL s))) = domL s
    rw [hX]
    rw [show (locL s ++ 64 :: domL s).drop ((locL s).length + 1) = domL s by rw [List.drop_append]; simp]
    exact hfd
  have hXlast : (locL s ++ 64 :: domL s).getLast? = (domL s).getLast? := by
    rw [List.getLast?_append]
    cases e : domL s with
    | nil => exact absurd e hdne
    | cons a b => rw [List.getLast?_cons_cons]; cases q : (a :: b).getLast? with
      | none => simp at q
      | some c => simp
  have hXp : parseB (locL s ++ 64 :: domL s) = true := by
    unfold parseB
    have e1 : may (folded ((locL s ++ 64 :: domL s).drop (lastAt (locL s ++ 64 :: domL s)))) = may (domL s) := congrArg may hXd
    have e2 : (locL s ++ 64 :: domL s).take (lastAt (locL s ++ 64 :: domL s) - 1) = s.take (lastAt s - 1) := hXl
    have e3 : ((locL s ++ 64 :: domL s).getLast? == some 46) = false := by rw [hXlast]; simpa using hddot
    rw [e1, hm']
    unfold locOk
    rw [e2, e3, hX, decide_eq_true (by omega)]
    simpa using hk
  refine ⟨by omega, by omega, by omega, hm', ?_, ?_⟩
  · unfold showB; rw [hXp, hXl, hXd]; simp
  · unfold sameB; rw [hXp, hXl, hXd, h0]; simp
end Go.Proofs.YtehkdbgoeakgbaaDoor
