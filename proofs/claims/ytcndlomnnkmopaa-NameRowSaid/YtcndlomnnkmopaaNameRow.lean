/- NameRow: the walk. -/
import Derived.Test.YtcndlomnnkmopaaNameE
import Derived.WalkLawsBesides
namespace Go.Proofs.Ytcndlomnnkmopaa
set_option linter.all false
open Go.RowKit Go.Shelf
open Lib (compareBytes)

theorem cmp_range (a b : List UInt8) : compareBytes a b = -1 ∨ compareBytes a b = 0 ∨ compareBytes a b = 1 := by
  induction a generalizing b with
  | nil => cases b <;> simp [compareBytes]
  | cons x a ih =>
    cases b with
    | nil => simp [compareBytes]
    | cons y b =>
      unfold compareBytes
      split
      · simp
      · split
        · simp
        · exact ih b
theorem u8_lt {x y : UInt8} : x < y ↔ x.toNat < y.toNat := Iff.rfl
theorem cmp_anti (a b : List UInt8) : compareBytes b a = - compareBytes a b := by
  induction a generalizing b with
  | nil => cases b <;> simp [compareBytes]
  | cons x a ih =>
    cases b with
    | nil => simp [compareBytes]
    | cons y b =>
      unfold compareBytes
      by_cases h1 : x < y
      · rw [if_pos h1, if_neg (by rw [u8_lt] at *; omega), if_pos h1]; rfl
      · by_cases h2 : y < x
        · rw [if_pos h2, if_neg h1, if_pos h2]
        · rw [if_neg h2, if_neg h1, if_neg h1, if_neg h2]; exact ih b
theorem cmp_zero (a b : List UInt8) : compareBytes a b = 0 ↔ a = b := by
  induction a generalizing b with
  | nil => cases b <;> simp [compareBytes]
  | cons x a ih =>
    cases b with
    | nil => simp [compareBytes]
    | cons y b =>
      unfold compareBytes
      by_cases h1 : x < y
      · rw [if_pos h1]
        constructor
        · intro h; cases h
        · intro h; simp only [List.cons.injEq] at h; rw [h.1, u8_lt] at h1; omega
      · by_cases h2 : y < x
        · rw [if_neg h1, if_pos h2]
          constructor
          · intro h; cases h
          · intro h; simp only [List.cons.injEq] at h; rw [h.1, u8_lt] at h2; omega
        · rw [if_neg h1, if_neg h2, ih b]
          have : x = y := UInt8.toNat_inj.1 (by rw [u8_lt] at *; omega)
          simp [this]
theorem cmp_less (a b : List UInt8) : (compareBytes a b < 0) ↔ Op.bytesLess a b = true := by
  induction a generalizing b with
  | nil => cases b <;> simp [compareBytes, Op.bytesLess]
  | cons x a ih =>
    cases b with
    | nil => simp [compareBytes, Op.bytesLess]
    | cons y b =>
      unfold compareBytes Op.bytesLess
      by_cases h1 : x < y
      · simp [h1]
      · by_cases h2 : y < x
        · have : ¬ x = y := by rintro rfl; rw [u8_lt] at h2; omega
          simp [h1, h2, this]
        · have : x = y := UInt8.toNat_inj.1 (by rw [u8_lt] at *; omega)
          subst this
          simp [h1, ih b]
theorem cmp_trans (a b c : List UInt8) (h1 : compareBytes a b ≤ 0) (h2 : compareBytes b c ≤ 0) : compareBytes a c ≤ 0 := by
  induction a generalizing b c with
  | nil => cases c <;> simp [compareBytes]
  | cons x a ih =>
    cases b with
    | nil => simp [compareBytes] at h1
    | cons y b =>
      cases c with
      | nil => simp [compareBytes] at h2
      | cons z c =>
        unfold compareBytes at h1 h2 ⊢
        by_cases p1 : x < y
        · by_cases p2 : y < z
          · rw [if_pos (by rw [u8_lt] at *; omega)]; omega
          · rw [if_neg p2] at h2
            by_cases p3 : z < y
            · rw [if_pos p3] at h2; omega
            · rw [if_pos (by rw [u8_lt] at *; omega)]; omega
        · rw [if_neg p1] at h1
          by_cases p2 : y < x
          · rw [if_pos p2] at h1; omega
          · rw [if_neg p2] at h1
            by_cases p3 : y < z
            · rw [if_pos (by rw [u8_lt] at *; omega)]; omega
            · rw [if_neg p3] at h2
              by_cases p4 : z < y
              · rw [if_pos p4] at h2; omega
              · rw [if_neg p4] at h2
                rw [if_neg (by rw [u8_lt] at *; omega), if_neg (by rw [u8_lt] at *; omega)]
                exact ih b c h1 h2

set_option maxRecDepth 100000 in
set_option maxHeartbeats 2000000 in
theorem nameRow_walk (a : List UInt8) (ha : a.length ≤ 140737488351232) (b : List UInt8) (hb : b.length ≤ 140737488351232) (c : List UInt8) (hc : c.length ≤ 140737488351232) (w : World) :
    Calls Try.prog 6 #[.string ⟨a.toArray⟩, .string ⟨b.toArray⟩, .string ⟨c.toArray⟩] w fun e w' => e = .returned (.bool true) ∧ Below w.heap.size w w' := by
  by_cases h5 : 5000 < (a.length : Int) + b.length + c.length
  · go_enter Try.func6, Try.ntmps6
    go_wp2_with fail
    refine (awake_any _).mono ?_
    rintro e w2 ⟨rfl, ch2⟩
    go_wp2
    go_ret
    exact ⟨rfl, ch2.below (Nat.le_refl _) (by simp)⟩
  go_enter Try.func6, Try.ntmps6
  go_wp2_with fail
  refine (awake_any _).mono ?_
  rintro e w2 ⟨rfl, ch2⟩
  go_wp2_with fail
  refine (compare_any a b _).mono ?_
  rintro e w3 ⟨rfl, rfl⟩
  go_wp2_with fail
  refine (compare_any b c _).mono ?_
  rintro e w3 ⟨rfl, rfl⟩
  go_wp2_with fail
  refine (compare_any a c _).mono ?_
  rintro e w3 ⟨rfl, rfl⟩
  go_wp2_with fail
  refine (compare_any b a _).mono ?_
  rintro e w3 ⟨rfl, rfl⟩
  have r1 := cmp_range a b
  have r2 := cmp_anti a b
  have r3 := cmp_zero a b
  have r4 := cmp_less a b
  have r5 := cmp_trans a b c
  have R1 := Lib.hid r1; have R3 := Lib.hid r3; have R4 := Lib.hid r4; have R5 := Lib.hid r5
  rw [r2]
  clear r1 r2 r3 r4 r5
  generalize compareBytes a b = x at *
  generalize compareBytes b c = y at *
  generalize compareBytes a c = z at *
  have FIN : Hid (0 < x ∨ 0 < y ∨ z ≤ 0) := by have := R5.out; unfold Hid; omega
  have E1 : ((x == 0) = (a == b)) := by rw [Bool.eq_iff_iff]; simpa using R3.out
  have E2 : (decide (x < 0) = Op.bytesLess a b) := by rw [Bool.eq_iff_iff]; simpa using R4.out
  have C2 := Lib.hid ch2
  clear R3 R4 R5 ch2
  have hx := R1.out
  clear R1
  rcases hx with rfl | rfl | rfl
  focus
    have e1 : (a == b) = false := by rw [← E1]; rfl
    have e2 : Op.bytesLess a b = true := by rw [← E2]; rfl
    have hz : (0 < y) ∨ (¬ 0 < y ∧ z ≤ 0) := by have := FIN.out; omega
    clear E1 E2
  rotate_left
  focus
    have e1 : (a == b) = true := by rw [← E1]; rfl
    have e2 : Op.bytesLess a b = false := by rw [← E2]; rfl
    have hz : (0 < y) ∨ (¬ 0 < y ∧ z ≤ 0) := by have := FIN.out; omega
    clear E1 E2
  rotate_left
  focus
    have e1 : (a == b) = false := by rw [← E1]; rfl
    have e2 : Op.bytesLess a b = false := by rw [← E2]; rfl
    have hz : (0 < y) ∨ (¬ 0 < y) := by omega
    clear E1 E2
  all_goals
    clear FIN
    rcases hz with hz | hz
  all_goals
    go_wp2_with fail
    first
    | (go_ret; exact ⟨rfl, C2.out.below (Nat.le_refl _) (by simp)⟩)
    | go_goals
end Go.Proofs.Ytcndlomnnkmopaa
