/- frame: what a sector and a record are, in plain Lean; the laws FrameTorn, FrameBack, FrameGone, FrameRow about it. -/
import Derived.Test.YtnlppcjfpmnahaaGreatDoorFmB
namespace Go.Proofs.YtnlppcjfpmnahaaGreatDoor
set_option linter.all false
open Go.RowKit

theorem leb_nat (n : Int) (i : Nat) : ((lebAt n i).toNat : Int) = n / 2 ^ (8 * i) % 256 := by
  unfold lebAt
  rw [UInt8.toNat_ofNat']
  have h1 : 0 ≤ n / 2 ^ (8 * i) % 256 := Int.emod_nonneg _ (by omega)
  have h2 : n / 2 ^ (8 * i) % 256 < 256 := Int.emod_lt_of_pos _ (by omega)
  omega
theorem stampL_eq (age place : Int) : stampL age place = [lebAt age 0, lebAt age 1, lebAt age 2, lebAt age 3, lebAt place 0, lebAt place 1, lebAt place 2, lebAt place 3] := rfl
theorem leb0 (n : Int) : ((lebAt n 0).toNat : Int) = n % 256 := by have := leb_nat n 0; simpa using this
theorem leb1 (n : Int) : ((lebAt n 1).toNat : Int) = n / 256 % 256 := leb_nat n 1
theorem leb2 (n : Int) : ((lebAt n 2).toNat : Int) = n / 65536 % 256 := leb_nat n 2
theorem leb3 (n : Int) : ((lebAt n 3).toNat : Int) = n / 16777216 % 256 := leb_nat n 3
theorem numL4 (a b c d : UInt8) : (numL [a, b, c, d] : Int) = (a.toNat : Int) + 256 * ((b.toNat : Int) + 256 * ((c.toNat : Int) + 256 * (d.toNat : Int))) := by
  show ((a.toNat + 256 * (b.toNat + 256 * (c.toNat + 256 * (d.toNat + 256 * 0))) : Nat) : Int) = _
  omega
theorem numL2 (a b : UInt8) : (numL [a, b] : Int) = (a.toNat : Int) + 256 * (b.toNat : Int) := by
  show ((a.toNat + 256 * (b.toNat + 256 * 0) : Nat) : Int) = _
  omega
theorem num4 (n : Int) (h0 : 0 ≤ n) (h1 : n < 4294967296) : (numL [lebAt n 0, lebAt n 1, lebAt n 2, lebAt n 3] : Int) = n := by
  rw [numL4, leb0, leb1, leb2, leb3]
  omega
theorem num2 (n : Int) (h0 : 0 ≤ n) (h1 : n < 65536) : (numL [lebAt n 0, lebAt n 1] : Int) = n := by
  rw [numL2, leb0, leb1]
  omega
theorem mayB_iff {age place : Int} : mayB age place = true ↔ 1 ≤ age ∧ age ≤ 4294967295 ∧ 0 ≤ place ∧ place < 1024 := by
  unfold mayB
  simp
def getA (x : List UInt8) : Nat := numL (x.take 4)
def getP (x : List UInt8) : Nat := numL ((x.drop 4).take 4)
def getT (x : List UInt8) : List UInt8 := (x.drop 8).take 112
def getB (x : List UInt8) : Bool := decide (x.length = 128) && (decide (x.take 8 = x.drop 120) && mayB (getA x) (getP x))
def ageS (x : List UInt8) : Nat := if x.length = 128 then max (numL (x.take 4)) (numL ((x.drop 120).take 4)) else 0
theorem getB_iff {x : List UInt8} : getB x = true ↔ x.length = 128 ∧ x.take 8 = x.drop 120 ∧ mayB (getA x) (getP x) = true := by
  unfold getB; simp
theorem putS_len {age place : Int} {s : List UInt8} (h : s.length ≤ 112) : (putS age place s).length = 128 := by
  unfold putS
  simp only [List.length_append, stampL_len, List.length_replicate]
  omega
theorem putS_first (age place : Int) (s : List UInt8) : (putS age place s).take 8 = stampL age place := by
  unfold putS
  rw [List.append_assoc, List.append_assoc, List.take_append_of_le_length (by rw [stampL_len]; omega), List.take_of_length_le (by rw [stampL_len]; omega)]
theorem putS_rest (age place : Int) (s : List UInt8) : (putS age place s).drop 8 = s ++ List.replicate (112 - s.length) 0 ++ stampL age place := by
  unfold putS
  rw [List.append_assoc, List.append_assoc, List.drop_append_of_le_length (by rw [stampL_len]; omega), List.drop_of_length_le (by rw [stampL_len]; omega)]
  simp
theorem putS_text {age place : Int} {s : List UInt8} (h : s.length ≤ 112) : getT (putS age place s) = s ++ List.replicate (112 - s.length) 0 := by
  unfold getT
  rw [putS_rest, List.take_append_of_le_length (by simp; omega), List.take_of_length_le (by simp; omega)]
theorem putS_last {age place : Int} {s : List UInt8} (h : s.length ≤ 112) : (putS age place s).drop 120 = stampL age place := by
  rw [show 120 = 8 + 112 from rfl, ← List.drop_drop, putS_rest, List.drop_append_of_le_length (by simp; omega), List.drop_of_length_le (by simp; omega)]
  simp
theorem take4 (x : List UInt8) : x.take 4 = (x.take 8).take 4 := by rw [List.take_take]; rfl
theorem drop4 (x : List UInt8) : (x.drop 4).take 4 = (x.take 8).drop 4 := by rw [List.drop_take]
theorem putS_A {age place : Int} {s : List UInt8} (hm : mayB age place = true) : (getA (putS age place s) : Int) = age := by
  obtain ⟨h1, h2, h3, h4⟩ := mayB_iff.1 hm
  unfold getA
  rw [take4, putS_first, stampL_eq]
  exact num4 age (by omega) (by omega)
theorem putS_P {age place : Int} {s : List UInt8} (hm : mayB age place = true) : (getP (putS age place s) : Int) = place := by
  obtain ⟨h1, h2, h3, h4⟩ := mayB_iff.1 hm
  unfold getP
  rw [drop4, putS_first, stampL_eq]
  exact num4 place (by omega) (by omega)
theorem putS_B {age place : Int} {s : List UInt8} (hm : mayB age place = true) (h : s.length ≤ 112) : getB (putS age place s) = true := by
  rw [getB_iff, putS_A hm, putS_P hm, putS_len h, putS_first, putS_last h]
  exact ⟨rfl, rfl, hm⟩
theorem putS_age {age place : Int} {s : List UInt8} (hm : mayB age place = true) (h : s.length ≤ 112) : (ageS (putS age place s) : Int) = age := by
  obtain ⟨h1, h2, h3, h4⟩ := mayB_iff.1 hm
  have e := num4 age (by omega) (by omega)
  unfold ageS
  rw [if_pos (putS_len h), take4, putS_first, putS_last h, stampL_eq]
  show ((max (numL [lebAt age 0, lebAt age 1, lebAt age 2, lebAt age 3]) (numL [lebAt age 0, lebAt age 1, lebAt age 2, lebAt age 3]) : Nat) : Int) = age
  rw [Nat.max_self]
  exact e

/- FrameTorn -/
theorem stamp_inj {age place other there : Int} (h : mayB age place = true) (h' : mayB other there = true) (e : stampL age place = stampL other there) : age = other ∧ place = there := by
  have a1 := putS_A (s := []) h
  have a2 := putS_A (s := []) h'
  have p1 := putS_P (s := []) h
  have p2 := putS_P (s := []) h'
  unfold getA at a1 a2
  unfold getP at p1 p2
  rw [take4, putS_first] at a1 a2
  rw [drop4, putS_first] at p1 p2
  rw [← e] at a2 p2
  exact ⟨a1.symm.trans a2, p1.symm.trans p2⟩
def mixL (k : Nat) (a b : List UInt8) : List UInt8 := a.take k ++ b.drop k
theorem mix_le {age other : Int} (h0 : 0 ≤ other) (h1 : other ≤ age) (h2 : age < 4294967296) (k : Nat) : (numL (mixL k [lebAt age 0, lebAt age 1, lebAt age 2, lebAt age 3] [lebAt other 0, lebAt other 1, lebAt other 2, lebAt other 3]) : Int) ≤ age := by
  have a0 := leb0 age
  have a1 := leb1 age
  have a2 := leb2 age
  have a3 := leb3 age
  have b0 := leb0 other
  have b1 := leb1 other
  have b2 := leb2 other
  have b3 := leb3 other
  match k with
  | 0 => simp only [mixL, List.take, List.drop, List.nil_append, List.cons_append]; rw [numL4]; omega
  | 1 => simp only [mixL, List.take, List.drop, List.nil_append, List.cons_append]; rw [numL4]; omega
  | 2 => simp only [mixL, List.take, List.drop, List.nil_append, List.cons_append]; rw [numL4]; omega
  | 3 => simp only [mixL, List.take, List.drop, List.nil_append, List.cons_append]; rw [numL4]; omega
  | k + 4 =>
    have e : mixL (k + 4) [lebAt age 0, lebAt age 1, lebAt age 2, lebAt age 3] [lebAt other 0, lebAt other 1, lebAt other 2, lebAt other 3] = [lebAt age 0, lebAt age 1, lebAt age 2, lebAt age 3] := by
      unfold mixL
      rw [List.take_of_length_le (by simp), List.drop_of_length_le (by simp)]
      rfl
    rw [e, num4 age (by omega) h2]
    exact Int.le_refl _
theorem mix_take : ∀ (k n : Nat) (a b : List UInt8), a.length = b.length → (mixL k a b).take n = mixL k (a.take n) (b.take n)
  | 0, n, a, b, _ => by simp [mixL]
  | k + 1, 0, a, b, _ => by simp [mixL]
  | k + 1, n + 1, [], [], _ => by simp [mixL]
  | k + 1, n + 1, x :: a, [], h => by simp at h
  | k + 1, n + 1, [], y :: b, h => by simp at h
  | k + 1, n + 1, x :: a, y :: b, h => by
    have ih := mix_take k n a b (by simpa using h)
    show x :: (mixL k a b).take n = x :: mixL k (a.take n) (b.take n)
    rw [ih]
theorem mix_drop : ∀ (k n : Nat) (a b : List UInt8), a.length = b.length → (mixL k a b).drop n = mixL (k - n) (a.drop n) (b.drop n)
  | k, 0, a, b, _ => by simp
  | 0, n + 1, a, b, _ => by simp [mixL]
  | k + 1, n + 1, [], [], _ => by simp [mixL]
  | k + 1, n + 1, x :: a, [], h => by simp at h
  | k + 1, n + 1, [], y :: b, h => by simp at h
  | k + 1, n + 1, x :: a, y :: b, h => by
    have ih := mix_drop k n a b (by simpa using h)
    show (mixL k a b).drop n = mixL (k + 1 - (n + 1)) (a.drop n) (b.drop n)
    rw [ih, show k + 1 - (n + 1) = k - n by omega]
theorem torn {age place other there : Int} {s t : List UInt8} (h : mayB age place = true) (h' : mayB other there = true) (hs : s.length ≤ 112) (ht : t.length ≤ 112) (hne : ¬ (age = other ∧ place = there)) (k : Nat) (hk : k ≤ 128) :
    (getB (mixL k (putS age place s) (putS other there t)) = true → mixL k (putS age place s) (putS other there t) = putS age place s ∨ mixL k (putS age place s) (putS other there t) = putS other there t) ∧ (other < age → (ageS (mixL k (putS age place s) (putS other there t)) : Int) ≤ age) := by
  obtain ⟨m1, m2, m3, m4⟩ := mayB_iff.1 h
  obtain ⟨n1, n2, n3, n4⟩ := mayB_iff.1 h'
  have l1 := putS_len (age := age) (place := place) hs
  have l2 := putS_len (age := other) (place := there) ht
  have f1 := putS_first age place s
  have f2 := putS_first other there t
  have e1 := putS_last (age := age) (place := place) hs
  have e2 := putS_last (age := other) (place := there) ht
  generalize putS age place s = x at *
  generalize putS other there t = y at *
  have lS := stampL_len age place
  have lU := stampL_len other there
  have inj : stampL age place ≠ stampL other there := fun e => hne (stamp_inj h h' e)
  have c1 : (mixL k x y).take 8 = mixL k (stampL age place) (stampL other there) := by rw [mix_take k 8 x y (by omega), f1, f2]
  have c2 : (mixL k x y).drop 120 = mixL (k - 120) (stampL age place) (stampL other there) := by rw [mix_drop k 120 x y (by omega), e1, e2]
  have hlen : (mixL k x y).length = 128 := by unfold mixL; simp; omega
  refine ⟨fun hg => ?_, fun hlt => ?_⟩
  · obtain ⟨_, hg, _⟩ := getB_iff.1 hg
    by_cases q1 : k ≤ 8
    · right
      have q : (mixL k x y).take 8 = stampL other there := by rw [hg, c2, show k - 120 = 0 by omega]; simp [mixL]
      have r : (mixL k x y).drop 8 = y.drop 8 := by rw [mix_drop k 8 x y (by omega), show k - 8 = 0 by omega]; simp [mixL]
      rw [← List.take_append_drop 8 (mixL k x y), q, r, ← f2, List.take_append_drop]
    · by_cases q2 : k ≤ 120
      · exfalso
        apply inj
        have q : (mixL k x y).take 8 = stampL age place := by rw [c1]; unfold mixL; rw [List.take_of_length_le (by omega), List.drop_of_length_le (by omega), List.append_nil]
        rw [← q, hg, c2, show k - 120 = 0 by omega]
        simp [mixL]
      · left
        have q : (mixL k x y).take 8 = stampL age place := by rw [c1]; unfold mixL; rw [List.take_of_length_le (by omega), List.drop_of_length_le (by omega), List.append_nil]
        have r : (mixL k x y).take 120 = x.take 120 := by
          rw [mix_take k 120 x y (by omega)]; unfold mixL
          rw [List.take_of_length_le (by simp; omega), List.drop_of_length_le (by simp; omega), List.append_nil]
        rw [← List.take_append_drop 120 (mixL k x y), r, ← hg, q, ← e1, List.take_append_drop]
  · unfold ageS
    rw [if_pos hlen, take4, c1, c2, mix_take k 4 _ _ (by omega), mix_take (k - 120) 4 _ _ (by omega), stampL_eq, stampL_eq]
    have b1 := mix_le (by omega) (Int.le_of_lt hlt) (by omega) k
    have b2 := mix_le (by omega) (Int.le_of_lt hlt) (by omega) (k - 120)
    show ((max (numL (mixL k [lebAt age 0, lebAt age 1, lebAt age 2, lebAt age 3] [lebAt other 0, lebAt other 1, lebAt other 2, lebAt other 3])) (numL (mixL (k - 120) [lebAt age 0, lebAt age 1, lebAt age 2, lebAt age 3] [lebAt other 0, lebAt other 1, lebAt other 2, lebAt other 3])) : Nat) : Int) ≤ age
    omega
end Go.Proofs.YtnlppcjfpmnahaaGreatDoor
