/- frame: records in plain Lean: Split and Join, and the laws about them. -/
import Derived.Test.YtnlppcjfpmnahaaGreatDoorFmP
import Derived.Lib.TrimByte
namespace Go.Proofs.YtnlppcjfpmnahaaGreatDoor
set_option linter.all false
open Go.RowKit

/-- n pieces of 112 bytes -/
def chop : Nat → List UInt8 → List (List UInt8)
  | 0, _ => []
  | n + 1, a => a.take 112 :: chop n (a.drop 112)
def secs (age : Int) : Int → List (List UInt8) → List (List UInt8)
  | _, [] => []
  | place, p :: r => putS age place p :: secs age (place + 1) r
def hdrL (n len : Int) : List UInt8 := putAt (putAt (List.replicate 6 0) 0 n 2) 2 len 4
theorem hdrL_eq (n len : Int) : hdrL n len = [lebAt n 0, lebAt n 1, lebAt len 0, lebAt len 1, lebAt len 2, lebAt len 3] := rfl
def allL (s : List UInt8) : List UInt8 := hdrL (manyN s.length) s.length ++ s
def splitL (age place : Int) (s : List UInt8) : List (List UInt8) := secs age place (chop (manyN s.length) (allL s))
theorem allL_len (s : List UInt8) : (allL s).length = s.length + 6 := by
  unfold allL; rw [hdrL_eq]; simp
theorem chop_len : ∀ (n : Nat) (a : List UInt8), (chop n a).length = n
  | 0, _ => rfl
  | n + 1, a => by simp [chop, chop_len n]
theorem secs_len (age : Int) : ∀ (place : Int) (ps : List (List UInt8)), (secs age place ps).length = ps.length
  | _, [] => rfl
  | place, p :: r => by simp [secs, secs_len age (place + 1) r]
theorem split_len (age place : Int) (s : List UInt8) : (splitL age place s).length = manyN s.length := by
  unfold splitL; rw [secs_len, chop_len]
theorem chop_at : ∀ (n : Nat) (a : List UInt8) (i : Nat), i < n → (chop n a)[i]? = some ((a.drop (112 * i)).take 112)
  | 0, _, i, h => by omega
  | n + 1, a, 0, h => by simp [chop]
  | n + 1, a, i + 1, h => by
    rw [chop, List.getElem?_cons_succ, chop_at n _ i (by omega), List.drop_drop, show 112 + 112 * i = 112 * (i + 1) by omega]
theorem secs_at (age : Int) : ∀ (place : Int) (ps : List (List UInt8)) (i : Nat), (secs age place ps)[i]? = (ps[i]?).map (putS age (place + i))
  | _, [], i => by simp [secs]
  | place, p :: r, 0 => by simp [secs]
  | place, p :: r, i + 1 => by
    rw [secs, List.getElem?_cons_succ, List.getElem?_cons_succ, secs_at age (place + 1) r i]
    congr 2
    push_cast
    omega
theorem split_at (age place : Int) (s : List UInt8) (i : Nat) (hi : i < manyN s.length) : (splitL age place s)[i]? = some (putS age (place + i) (((allL s).drop (112 * i)).take 112)) := by
  unfold splitL; rw [secs_at, chop_at _ _ _ hi]; rfl
theorem split_snoc (age place : Int) (s : List UInt8) (i : Nat) (hi : i < manyN s.length) : (splitL age place s).take (i + 1) = (splitL age place s).take i ++ [putS age (place + i) (((allL s).drop (112 * i)).take 112)] := by
  have h := split_at age place s i hi
  obtain ⟨hl, he⟩ := List.getElem?_eq_some_iff.1 h
  rw [List.take_succ_eq_append_getElem hl, he]
theorem many_pos (n : Nat) : 1 ≤ manyN n := by unfold manyN; omega
theorem many_le (n : Nat) : n + 6 ≤ 112 * manyN n := by unfold manyN; omega
theorem many_ge (n : Nat) : 112 * (manyN n - 1) ≤ n + 6 := by unfold manyN; omega

def okAt (age place : Int) (i : Nat) (x : List UInt8) : Bool := getB x && (decide ((getA x : Int) = age) && decide ((getP x : Int) = wrap64 (place + i)))
def allOk (age place : Int) : Nat → List (List UInt8) → Bool
  | _, [] => true
  | i, x :: r => okAt age place i x && allOk age place (i + 1) r
def textOf (ss : List (List UInt8)) : List UInt8 := (ss.map getT).flatten
def joinN (x : List UInt8) : Nat := numL ((getT x).take 2)
def joinZ (x : List UInt8) : Nat := numL (((getT x).drop 2).take 4)
def zeroB (l : List UInt8) : Bool := l.all (· == 0)
def joinB (age place : Int) : List (List UInt8) → Bool
  | [] => false
  | x :: r => getB x && (decide (manyN (joinZ x) = joinN x) && (decide (joinN x ≤ r.length + 1) && (allOk age place 0 ((x :: r).take (joinN x)) && zeroB ((textOf ((x :: r).take (joinN x))).drop (6 + joinZ x)))))
def joinT : List (List UInt8) → List UInt8
  | [] => []
  | x :: r => ((textOf ((x :: r).take (joinN x))).drop 6).take (joinZ x)
def joinM : List (List UInt8) → Nat
  | [] => 0
  | x :: _ => joinN x
def joinV (age place : Int) (ss : List (List UInt8)) : Value := bif joinB age place ss then .tuple #[.string ⟨(joinT ss).toArray⟩, .int .i64 (joinM ss), .bool true] else .tuple #[.string ⟨#[]⟩, .int .i64 0, .bool false]
theorem joinV_true {age place : Int} {ss : List (List UInt8)} (h : joinB age place ss = true) : joinV age place ss = .tuple #[.string ⟨(joinT ss).toArray⟩, .int .i64 (joinM ss), .bool true] := by unfold joinV; rw [h]; rfl
theorem joinV_false {age place : Int} {ss : List (List UInt8)} (h : joinB age place ss = false) : joinV age place ss = .tuple #[.string ⟨#[]⟩, .int .i64 0, .bool false] := by unfold joinV; rw [h]; rfl
theorem getT_len {x : List UInt8} (h : getB x = true) : (getT x).length = 112 := by
  obtain ⟨h1, _, _⟩ := getB_iff.1 h
  unfold getT; simp; omega
theorem okAt_B {age place : Int} {i : Nat} {x : List UInt8} (h : okAt age place i x = true) : getB x = true := by
  unfold okAt at h; simp only [Bool.and_eq_true] at h; exact h.1
theorem allOk_at {age place : Int} : ∀ {i : Nat} {ss : List (List UInt8)}, allOk age place i ss = true → ∀ j (h : j < ss.length), okAt age place (i + j) ss[j] = true
  | i, [], _, j, h => by simp at h
  | i, x :: r, h, 0, hj => by simp only [allOk, Bool.and_eq_true] at h; exact h.1
  | i, x :: r, h, j + 1, hj => by
    simp only [allOk, Bool.and_eq_true] at h
    have := allOk_at h.2 j (by simpa using hj)
    rw [show i + (j + 1) = i + 1 + j by omega]
    exact this
theorem allOk_of {age place : Int} : ∀ {i : Nat} {ss : List (List UInt8)}, (∀ j (h : j < ss.length), okAt age place (i + j) ss[j] = true) → allOk age place i ss = true
  | i, [], _ => rfl
  | i, x :: r, h => by
    simp only [allOk, Bool.and_eq_true]
    refine ⟨h 0 (by simp), allOk_of fun j hj => ?_⟩
    have := h (j + 1) (by simpa using hj)
    rw [show i + 1 + j = i + (j + 1) by omega]
    exact this
theorem allOk_snoc {age place : Int} {ss : List (List UInt8)} {i : Nat} (hi : i < ss.length) : allOk age place 0 (ss.take (i + 1)) = (allOk age place 0 (ss.take i) && okAt age place i ss[i]) := by
  rw [Bool.eq_iff_iff, Bool.and_eq_true]
  constructor
  · intro h
    refine ⟨allOk_of fun j hj => ?_, ?_⟩
    · have hj' : j < i := by simp at hj; omega
      have := allOk_at h j (by simp; omega)
      simpa using this
    · have := allOk_at h i (by simp; omega)
      simpa using this
  · rintro ⟨h1, h2⟩
    refine allOk_of fun j hj => ?_
    by_cases e : j < i
    · have := allOk_at h1 j (by simp; omega)
      simpa using this
    · have hj' : j = i := by simp at hj; omega
      subst hj'
      simpa using h2
theorem textOf_snoc {ss : List (List UInt8)} {i : Nat} (hi : i < ss.length) : textOf (ss.take (i + 1)) = textOf (ss.take i) ++ getT ss[i] := by
  rw [List.take_succ_eq_append_getElem hi]; unfold textOf
  simp only [List.map_append, List.flatten_append, List.map_cons, List.map_nil, List.flatten_cons, List.flatten_nil, List.append_nil]
theorem textOf_len {age place : Int} : ∀ {i : Nat} {ss : List (List UInt8)}, allOk age place i ss = true → (textOf ss).length = 112 * ss.length
  | i, [], _ => rfl
  | i, x :: r, h => by
    simp only [allOk, Bool.and_eq_true] at h
    have e := textOf_len h.2
    unfold textOf at *
    rw [List.map_cons, List.flatten_cons, List.length_append, getT_len (okAt_B h.1), e, List.length_cons]
    omega
/-- what Join looks at behind its loop -/
def tailB (all : List UInt8) (n : Nat) : Bool := !all.isEmpty && (decide (all.length = n * 112) && (decide (manyN (numL ((all.drop 2).take 4)) = n) && zeroB (all.drop (6 + numL ((all.drop 2).take 4)))))
theorem text_first {x : List UInt8} {r : List (List UInt8)} (hx : getB x = true) (k : Nat) (hk : 1 ≤ k) : (textOf ((x :: r).take k)).take 2 = (getT x).take 2 ∧ ((textOf ((x :: r).take k)).drop 2).take 4 = ((getT x).drop 2).take 4 := by
  obtain ⟨m, rfl⟩ : ∃ m, k = m + 1 := ⟨k - 1, by omega⟩
  have hl := getT_len hx
  unfold textOf
  rw [List.take_succ_cons, List.map_cons, List.flatten_cons]
  refine ⟨List.take_append_of_le_length (by omega), ?_⟩
  rw [List.drop_append_of_le_length (by omega), List.take_append_of_le_length (by simp; omega)]
theorem join_end {age place : Int} {ss : List (List UInt8)} {k : Nat} (hk : k ≤ ss.length) (ho : allOk age place 0 (ss.take k) = true) (hc : (k = ss.length ∧ (k = 0 ∨ k < joinM ss)) ∨ (1 ≤ k ∧ joinM ss ≤ k ∧ (k = 1 ∨ k - 1 < joinM ss))) :
    joinB age place ss = tailB (textOf (ss.take k)) (bif Nat.beq k 0 then 0 else joinM ss) ∧ (joinB age place ss = true → joinM ss = k ∧ 1 ≤ k ∧ joinT ss = ((textOf (ss.take k)).drop 6).take (numL (((textOf (ss.take k)).drop 2).take 4)) ∧ 6 + numL (((textOf (ss.take k)).drop 2).take 4) ≤ (textOf (ss.take k)).length) := by
  have hl := textOf_len ho
  rw [List.length_take, Nat.min_eq_left hk] at hl
  match ss, hk, ho, hc, hl with
  | [], hk, ho, hc, hl =>
    have : k = 0 := by simpa using hk
    subst this
    exact ⟨rfl, fun h => by cases (show false = true from h)⟩
  | x :: r, hk, ho, hc, hl =>
    have hk1 : 1 ≤ k := by
      rcases hc with hc | hc
      · simp at hc; omega
      · exact hc.1
    have hx : getB x = true := by
      have := allOk_at ho 0 (by simp; omega)
      have h2 : okAt age place 0 x = true := by simpa using this
      exact okAt_B h2
    obtain ⟨t1, t2⟩ := text_first (r := r) hx k hk1
    have hne : (textOf ((x :: r).take k)).isEmpty = false := by
      cases e : textOf ((x :: r).take k) with
      | nil => rw [e] at hl; simp at hl; omega
      | cons => rfl
    have hn : (bif Nat.beq k 0 then 0 else joinM (x :: r)) = joinN x := by
      have : Nat.beq k 0 = false := by
        match k, hk1 with
        | m + 1, _ => rfl
      rw [this]; rfl
    have hz : numL (((textOf ((x :: r).take k)).drop 2).take 4) = joinZ x := by rw [t2]; rfl
    simp only [joinM] at hc
    rw [hn]
    simp only [joinB, tailB, hx, hne, hz, hl, joinM, joinT, Bool.not_false, Bool.true_and]
    by_cases e : k = joinN x
    · subst e
      have hle : joinN x ≤ r.length + 1 := by simpa using hk
      rw [decide_eq_true hle, ho, decide_eq_true (show 112 * joinN x = joinN x * 112 by omega)]
      simp only [Bool.true_and, Bool.and_eq_true, decide_eq_true_eq]
      refine ⟨trivial, fun h => ⟨trivial, hk1, trivial, ?_⟩⟩
      have := many_le (joinZ x)
      rw [h.1] at this
      omega
    · have hno : ¬ (112 * k = joinN x * 112) := by omega
      rw [decide_eq_false hno]
      have hb : (decide (manyN (joinZ x) = joinN x) && (decide (joinN x ≤ r.length + 1) && (allOk age place 0 ((x :: r).take (joinN x)) && zeroB ((textOf ((x :: r).take (joinN x))).drop (6 + joinZ x))))) = false := by
        have hp := many_pos (joinZ x)
        by_cases q : manyN (joinZ x) = joinN x
        · have : ¬ joinN x ≤ r.length + 1 := by simp at hc; omega
          rw [decide_eq_false this]; simp
        · rw [decide_eq_false q]; rfl
      rw [hb]
      exact ⟨rfl, fun h => by cases h⟩
/-- a sector that is none ends it -/
theorem join_bad {age place : Int} {ss : List (List UInt8)} {i : Nat} (hi : i < ss.length) (hN : i = 0 ∨ i < joinM ss) (hb : okAt age place i ss[i] = false) : joinB age place ss = false := by
  match ss, hi, hN, hb with
  | x :: r, hi, hN, hb =>
    simp only [joinM] at hN
    cases e : joinB age place (x :: r) with
    | false => rfl
    | true =>
      simp only [joinB, Bool.and_eq_true, decide_eq_true_eq] at e
      obtain ⟨h1, h2, h3, h4, h5⟩ := e
      have hp := many_pos (joinZ x)
      have := allOk_at h4 i (by simp at hi ⊢; omega)
      rw [Nat.zero_add, List.getElem_take, hb] at this
      cases this
end Go.Proofs.YtnlppcjfpmnahaaGreatDoor
