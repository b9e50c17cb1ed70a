/- frame: what the laws say of records, in plain Lean. -/
import Derived.Test.YtnlppcjfpmnahaaGreatDoorFmQ
import Derived.Lib.EndianBits
namespace Go.Proofs.YtnlppcjfpmnahaaGreatDoor
set_option linter.all false
open Go.RowKit

theorem text_secs (age : Int) : ∀ (n : Nat) (place : Int) (a : List UInt8), a.length ≤ 112 * n → 112 * (n - 1) ≤ a.length → textOf (secs age place (chop n a)) = a ++ List.replicate (112 * n - a.length) 0
  | 0, place, a, h1, _ => by
    have : a = [] := List.eq_nil_of_length_eq_zero (by omega)
    subst this
    rfl
  | n + 1, place, a, h1, h2 => by
    have ih := text_secs age n (place + 1) (a.drop 112) (by simp; omega) (by simp; omega)
    have e : textOf (secs age place (chop (n + 1) a)) = getT (putS age place (a.take 112)) ++ textOf (secs age (place + 1) (chop n (a.drop 112))) := rfl
    rw [e, ih, putS_text (by simp; omega)]
    by_cases h : 112 ≤ a.length
    · rw [show 112 - (a.take 112).length = 0 by simp; omega, List.replicate_zero, List.append_nil, ← List.append_assoc, List.take_append_drop]
      congr 2
      simp; omega
    · have hn : n = 0 := by omega
      subst hn
      rw [List.take_of_length_le (by omega), List.drop_of_length_le (by omega)]
      simp
theorem okAt_put {age place : Int} {j : Nat} {p : List UInt8} (hm : mayB age (place + j) = true) (hp : p.length ≤ 112) (h0 : 0 ≤ place) : okAt age place j (putS age (place + j) p) = true := by
  obtain ⟨h1, h2, h3, h4⟩ := mayB_iff.1 hm
  unfold okAt
  rw [putS_B hm hp, putS_A hm, putS_P hm, IntWalk.wrap64_in _ (by omega), decide_eq_true rfl, decide_eq_true rfl]
  rfl
/-- the first sector of a record -/
def firstL (age place : Int) (s : List UInt8) : List UInt8 := putS age place ((allL s).take 112)
def restL (age place : Int) (s : List UInt8) : List (List UInt8) := secs age (place + 1) (chop (manyN s.length - 1) ((allL s).drop 112))
theorem split_cons (age place : Int) (s : List UInt8) : splitL age place s = firstL age place s :: restL age place s := by
  have h := many_pos s.length
  obtain ⟨m, hm⟩ : ∃ m, manyN s.length = m + 1 := ⟨manyN s.length - 1, by omega⟩
  unfold splitL firstL restL
  rw [hm]
  rfl
theorem rest_len (age place : Int) (s : List UInt8) : (restL age place s).length = manyN s.length - 1 := by
  unfold restL; rw [secs_len, chop_len]
theorem first_text (age place : Int) (s : List UInt8) : ∃ r, getT (firstL age place s) = hdrL (manyN s.length) s.length ++ r := by
  unfold firstL
  rw [putS_text (by simp; omega)]
  refine ⟨s.take 106 ++ List.replicate (112 - ((allL s).take 112).length) 0, ?_⟩
  rw [← List.append_assoc]
  congr 1
/-- may there be such a record? -/
def RecOk (age place : Int) (s : List UInt8) : Prop := mayB age place = true ∧ (manyN s.length : Int) ≤ 1024 - place
theorem RecOk.bounds {age place : Int} {s : List UInt8} (h : RecOk age place s) : 1 ≤ age ∧ age ≤ 4294967295 ∧ 0 ≤ place ∧ place < 1024 ∧ manyN s.length ≤ 1024 ∧ s.length ≤ 114688 ∧ place + manyN s.length ≤ 1024 := by
  obtain ⟨h1, h2, h3, h4⟩ := mayB_iff.1 h.1
  have h5 := h.2
  have h6 := many_le s.length
  omega
theorem first_is {age place : Int} {s : List UInt8} (h : RecOk age place s) : getB (firstL age place s) = true ∧ joinN (firstL age place s) = manyN s.length ∧ joinZ (firstL age place s) = s.length := by
  obtain ⟨h1, h2, h3, h4, h5, h6, h7⟩ := h.bounds
  refine ⟨putS_B h.1 (by simp; omega), ?_, ?_⟩
  · obtain ⟨r, hr⟩ := first_text age place s
    unfold joinN
    rw [hr, hdrL_eq]
    have := num2 (manyN s.length) (by omega) (by omega)
    show numL [lebAt (manyN s.length) 0, lebAt (manyN s.length) 1] = _
    omega
  · obtain ⟨r, hr⟩ := first_text age place s
    unfold joinZ
    rw [hr, hdrL_eq]
    have := num4 s.length (by omega) (by omega)
    show numL [lebAt s.length 0, lebAt s.length 1, lebAt s.length 2, lebAt s.length 3] = _
    omega
theorem split_ok {age place : Int} {s : List UInt8} (h : RecOk age place s) (i : Nat) (hi : i < (splitL age place s).length) : okAt age place i (splitL age place s)[i] = true := by
  obtain ⟨h1, h2, h3, h4, h5, h6, h7⟩ := h.bounds
  rw [split_len] at hi
  have e := (List.getElem?_eq_some_iff.1 (split_at age place s i hi)).2
  rw [e]
  exact okAt_put (mayB_iff.2 ⟨h1, h2, by omega, by omega⟩) (by simp; omega) h3
theorem split_text (age place : Int) (s : List UInt8) : textOf (splitL age place s) = allL s ++ List.replicate (112 * manyN s.length - (allL s).length) 0 := by
  have h1 := many_le s.length
  have h2 := many_ge s.length
  exact text_secs age _ place (allL s) (by rw [allL_len]; omega) (by rw [allL_len]; omega)
theorem take_split (age place : Int) (s : List UInt8) (behind : List (List UInt8)) : (splitL age place s ++ behind).take (manyN s.length) = splitL age place s := by
  rw [List.take_append_of_le_length (by rw [split_len]; omega), List.take_of_length_le (by rw [split_len]; omega)]
/-- a record is told again, whatever stands behind it -/
theorem join_split {age place : Int} {s : List UInt8} (h : RecOk age place s) (behind : List (List UInt8)) : joinB age place (splitL age place s ++ behind) = true ∧ joinT (splitL age place s ++ behind) = s ∧ joinM (splitL age place s ++ behind) = manyN s.length := by
  obtain ⟨f1, f2, f3⟩ := first_is h
  have hp := many_pos s.length
  have ht := take_split age place s behind
  have hx := split_text age place s
  have hl := rest_len age place s
  have ha : allOk age place 0 (splitL age place s) = true := allOk_of fun j hj => by rw [Nat.zero_add]; exact split_ok h j hj
  have hal : (allL s).drop (6 + s.length) = [] := List.drop_of_length_le (by rw [allL_len]; omega)
  have hd6 : (allL s).drop 6 = s := by unfold allL; rw [hdrL_eq]; rfl
  have hz : zeroB (List.replicate (112 * manyN s.length - (allL s).length) (0 : UInt8)) = true := by unfold zeroB; simp
  generalize List.replicate (112 * manyN s.length - (allL s).length) (0 : UInt8) = Zs at hx hz
  have hall := allL_len s
  rw [split_cons] at ht hx ha ⊢
  generalize firstL age place s = x at *
  generalize restL age place s = r at *
  rw [List.cons_append] at ht ⊢
  simp only [joinB, joinT, joinM, f1, f2, f3, ht, hx, ha, Bool.true_and, decide_true]
  refine ⟨?_, ?_, trivial⟩
  · rw [decide_eq_true (by simp; omega), List.drop_append_of_le_length (by omega), hal, List.nil_append, hz]
    rfl
  · rw [List.drop_append_of_le_length (by omega), hd6, List.take_append_of_le_length (by omega), List.take_of_length_le (by omega)]
/-- what a record must have -/
theorem join_need {age place : Int} {y : List UInt8} {r : List (List UInt8)} (h : joinB age place (y :: r) = true) : 1 ≤ joinN y ∧ joinN y ≤ r.length + 1 ∧ ∀ j (hj : j < (y :: r).length), j < joinN y → okAt age place j (y :: r)[j] = true := by
  simp only [joinB, Bool.and_eq_true, decide_eq_true_eq] at h
  obtain ⟨h1, h2, h3, h4, h5⟩ := h
  have hp := many_pos (joinZ y)
  refine ⟨by omega, h3, fun j hj hn => ?_⟩
  have := allOk_at h4 j (by simp at hj ⊢; omega)
  simpa using this
theorem gone_short {age place : Int} {s : List UInt8} (h : RecOk age place s) (k : Nat) (hk : k < manyN s.length) : joinB age place ((splitL age place s).take k) = false := by
  cases e : joinB age place ((splitL age place s).take k) with
  | false => rfl
  | true =>
    obtain ⟨f1, f2, f3⟩ := first_is h
    have hl := rest_len age place s
    match k, hk, e with
    | 0, _, e => rw [List.take_zero] at e; cases e
    | k + 1, hk, e =>
      rw [split_cons, List.take_succ_cons] at e
      have n := (join_need e).2.1
      rw [f2, List.length_take] at n
      omega
theorem gone_less {age place : Int} {s : List UInt8} (h : RecOk age place s) (k : Nat) (hk : k < manyN s.length) : joinB age place ((splitL age place s).take k ++ (splitL age place s).drop (k + 1)) = false := by
  cases e : joinB age place ((splitL age place s).take k ++ (splitL age place s).drop (k + 1)) with
  | false => rfl
  | true =>
    obtain ⟨f1, f2, f3⟩ := first_is h
    obtain ⟨b1, b2, b3, b4, b5, b6, b7⟩ := h.bounds
    have hl := rest_len age place s
    match k, hk, e with
    | 0, hk, e =>
      rw [List.take_zero, List.nil_append] at e
      cases hd : (splitL age place s).drop (0 + 1) with
      | nil => rw [hd] at e; cases e
      | cons y r =>
        rw [hd] at e
        have n := join_need e
        have o := n.2.2 0 (by simp) (by omega)
        have hlen : ((splitL age place s).drop (0 + 1)).length = r.length + 1 := by rw [hd]; rfl
        rw [List.length_drop, split_len] at hlen
        have hy : y = putS age (place + (1 : Nat)) (((allL s).drop (112 * 1)).take 112) := by
          have a1 := split_at age place s 1 (by omega)
          have a2 : ((splitL age place s).drop (0 + 1))[0]? = some y := by rw [hd]; rfl
          rw [List.getElem?_drop] at a2
          exact (Option.some.inj (a1.symm.trans a2)).symm
        simp only [List.getElem_cons_zero] at o
        unfold okAt at o
        rw [hy, putS_P (mayB_iff.2 ⟨b1, b2, by omega, by omega⟩), IntWalk.wrap64_in _ (by omega)] at o
        simp only [Bool.and_eq_true, decide_eq_true_eq] at o
        omega
    | k + 1, hk, e =>
      rw [split_cons, List.take_succ_cons, List.cons_append] at e
      have n := (join_need e).2.1
      rw [f2, List.length_append, List.length_take, List.length_drop, List.length_cons] at n
      omega
theorem gone_odd {age place : Int} {s : List UInt8} (h : RecOk age place s) (k : Nat) (hk : k < manyN s.length) (x : List UInt8) (hj : joinB age place ((splitL age place s).set k x) = true) : okAt age place k x = true := by
  obtain ⟨f1, f2, f3⟩ := first_is h
  have hl := rest_len age place s
  match k, hk, hj with
  | 0, hk, hj =>
    rw [split_cons, List.set_cons_zero] at hj
    have n := join_need hj
    have o := n.2.2 0 (by simp) (by omega)
    simpa using o
  | k + 1, hk, hj =>
    rw [split_cons, List.set_cons_succ] at hj
    have n := join_need hj
    have o := n.2.2 (k + 1) (by simp; omega) (by omega)
    simpa using o
/- rows of records -/
def rowAll (age : Int) : Int → List (List UInt8) → List (List UInt8)
  | _, [] => []
  | place, t :: r => splitL age place t ++ rowAll age (place + manyN t.length) r
def rowN : List (List UInt8) → Nat
  | [] => 0
  | t :: r => manyN t.length + rowN r
theorem rowAll_len (age : Int) : ∀ (place : Int) (ts : List (List UInt8)), (rowAll age place ts).length = rowN ts
  | _, [] => rfl
  | place, t :: r => by rw [rowAll, List.length_append, split_len, rowAll_len age _ r]; rfl
theorem rowN_snoc : ∀ (ts : List (List UInt8)) (t : List UInt8), rowN (ts ++ [t]) = rowN ts + manyN t.length
  | [], t => by simp [rowN]
  | u :: r, t => by simp only [List.cons_append, rowN, rowN_snoc r t]; omega
theorem rowAll_snoc (age : Int) : ∀ (place : Int) (ts : List (List UInt8)) (t : List UInt8), rowAll age place (ts ++ [t]) = rowAll age place ts ++ splitL age (place + rowN ts) t
  | place, [], t => by simp [rowAll, rowN]
  | place, u :: r, t => by
    simp only [List.cons_append, rowAll, rowAll_snoc age _ r t, rowN, List.append_assoc]
    congr 3
    push_cast
    omega
theorem rowAll_drop (age : Int) : ∀ (place : Int) (ts : List (List UInt8)) (i : Nat), i ≤ ts.length → (rowAll age place ts).drop (rowN (ts.take i)) = rowAll age (place + rowN (ts.take i)) (ts.drop i)
  | place, ts, 0, _ => by simp [rowN]
  | place, [], i + 1, h => by simp at h
  | place, t :: r, i + 1, h => by
    simp only [List.take_succ_cons, List.drop_succ_cons, rowN, rowAll]
    rw [← split_len age place t, ← List.drop_drop, List.drop_append_of_le_length (Nat.le_refl _), List.drop_length, List.nil_append, rowAll_drop age _ r i (by simpa using h), split_len]
    congr 1
    push_cast
    omega
end Go.Proofs.YtnlppcjfpmnahaaGreatDoor
