/- mailroomref03: digit, letter, digits, label, Cut. -/
import Derived.Test.YtlmifdkhdcbniaaDoorAdFold
namespace Go.Proofs.YtlmifdkhdcbniaaDoor
set_option linter.all false
open Go.RowKit Go.Shelf

def ltr (c : UInt8) : Bool := decide (97 ≤ c.toNat ∧ c.toNat ≤ 122)
theorem digit_any (c : UInt8) (b : Bool) (hb : dig c = b) (w : World) : Calls Tryd.prog 87 #[.int .u8 (c.toNat : Int)] w fun e w' => e = .returned (.bool b) ∧ w = w' := by
  subst hb
  by_cases h1 : 48 ≤ (c.toNat : Int)
  · by_cases h2 : (c.toNat : Int) ≤ 57
    · have E := Lib.hid (dig_true ⟨h1, h2⟩)
      go_enter Tryd.func87, Tryd.ntmps87
      go_wp2
      go_ret
      exact ⟨ret_bool (by first | (rw [E.out]; done) | (rw [E.out]; simp; omega)), rfl⟩
    · have E := Lib.hid (dig_false (c := c) (by omega))
      have h2' : decide ((c.toNat : Int) ≤ 57) = false := by simp; omega
      go_enter Tryd.func87, Tryd.ntmps87
      go_wp2
      go_ret
      exact ⟨ret_bool (by first | (rw [E.out]; done) | (rw [E.out]; simp; omega)), rfl⟩
  · have E := Lib.hid (dig_false (c := c) (by omega))
    go_enter Tryd.func87, Tryd.ntmps87
    go_wp2
    go_ret
    exact ⟨ret_bool (by first | (rw [E.out]; done) | (rw [E.out]; simp; omega)), rfl⟩
theorem letter3_any (c : UInt8) (b : Bool) (hb : ltr c = b) (w : World) : Calls Tryd.prog 88 #[.int .u8 (c.toNat : Int)] w fun e w' => e = .returned (.bool b) ∧ w = w' := by
  subst hb
  by_cases h1 : 97 ≤ (c.toNat : Int)
  · by_cases h2 : (c.toNat : Int) ≤ 122
    · have E : Hid (ltr c = true) := by unfold Hid ltr; rw [decide_eq_true_eq]; omega
      go_enter Tryd.func88, Tryd.ntmps88
      go_wp2
      go_ret
      exact ⟨ret_bool (by first | (rw [E.out]; done) | (rw [E.out]; simp; omega)), rfl⟩
    · have E : Hid (ltr c = false) := by unfold Hid ltr; rw [decide_eq_false_iff_not]; omega
      have h2' : decide ((c.toNat : Int) ≤ 122) = false := by simp; omega
      go_enter Tryd.func88, Tryd.ntmps88
      go_wp2
      go_ret
      exact ⟨ret_bool (by first | (rw [E.out]; done) | (rw [E.out]; simp; omega)), rfl⟩
  · have E : Hid (ltr c = false) := by unfold Hid ltr; rw [decide_eq_false_iff_not]; omega
    go_enter Tryd.func88, Tryd.ntmps88
    go_wp2
    go_ret
    exact ⟨ret_bool (by first | (rw [E.out]; done) | (rw [E.out]; simp; omega)), rfl⟩
theorem digits3_any (l : List UInt8) (w : World) (hl : l.length ≤ 1000000000) (b : Bool) (hb : l.all dig = b) : Calls Tryd.prog 72 #[.string ⟨l.toArray⟩] w fun e w' => e = .returned (.bool b) ∧ w = w' := by
  have HB := Lib.hid hb; clear hb
  go_enter Tryd.func72, Tryd.ntmps72
  go_wp2
  go_loop [3] (fun i => ∃ k : Nat, k ≤ l.length ∧ i = .int .i64 k ∧ (l.take k).all dig = true) (fun i => l.length - (intOf i).toNat)
  case atStart => exact ⟨0, by omega, rfl, rfl⟩
  case round =>
    obtain ⟨k, hk, rfl, ha⟩ := hrel
    have HA := Lib.hid ha; clear ha
    by_cases hlt : k < l.length
    · have hb1 : (k : Int) < (l.length : Int) := by omega
      cases hd : dig l[k]
      · have HD := Lib.hid hd; clear hd
        go_wp2_with fail
        refine (digit_any _ _ HD.out _).mono ?_
        rintro e w1 ⟨rfl, rfl⟩
        go_wp2
        go_ret
        exact ⟨ret_bool (by rw [← HB.out, all_not hlt HD.out]), rfl⟩
      · have HD := Lib.hid hd; clear hd
        go_wp2_with fail
        refine (digit_any _ _ HD.out _).mono ?_
        rintro e w1 ⟨rfl, rfl⟩
        go_wp2
        go_round
        case rel => exact ⟨k + 1, by omega, by go_num, all_snoc hlt HA.out HD.out⟩
        case measure => simp [intOf]; omega
    · obtain rfl : k = l.length := by omega
      go_wp2
      go_ret
      have h1 := HA.out
      rw [List.take_length] at h1
      exact ⟨ret_bool (by rw [← HB.out, h1]), rfl⟩
theorem lab_parts (c : UInt8) : (lab c = true ∧ ((dig c = true) ∨ (dig c = false ∧ ltr c = true) ∨ (dig c = false ∧ ltr c = false ∧ (c.toNat : Int) = 45))) ∨ (lab c = false ∧ dig c = false ∧ ltr c = false ∧ ¬ (c.toNat : Int) = 45) := by
  unfold lab dig ltr
  simp only [Bool.or_eq_true, decide_eq_true_eq, Bool.or_eq_false_iff, decide_eq_false_iff_not]
  omega
set_option maxHeartbeats 1000000 in
theorem label3_any (l : List UInt8) (w : World) (hs : l.length ≤ 1000000000) (b : Bool) (hb : labelOk l = b) :
    Calls Tryd.prog 73 #[.string ⟨l.toArray⟩] w fun e w' => e = .returned (.bool b) ∧ w = w' := by
  have HB := Lib.hid hb; clear hb
  go_enter Tryd.func73, Tryd.ntmps73
  by_cases h1 : l.length = 0
  · have h1' : ((l.length : Int) == 0) = true := by simp; exact List.eq_nil_of_length_eq_zero h1
    have E := Lib.hid (labelOk_no (l := l) (by omega))
    go_wp2
    go_ret
    exact ⟨ret_bool (by rw [← HB.out, E.out]), rfl⟩
  have h1' : ((l.length : Int) == 0) = false := by simp; rintro rfl; simp at h1
  by_cases h2 : 63 < l.length
  · have h2' : decide ((63 : Int) < (l.length : Int)) = true := by simp; omega
    have E := Lib.hid (labelOk_no (l := l) (by omega))
    go_wp2
    go_ret
    exact ⟨ret_bool (by rw [← HB.out, E.out]), rfl⟩
  have h2' : decide ((63 : Int) < (l.length : Int)) = false := by simp; omega
  have l0 : 0 < l.length := by omega
  have g0 := Lib.hid (getD_lt l 0 l0)
  have gl := Lib.hid (getD_lt l (l.length - 1) (by omega))
  by_cases h3 : (l[0].toNat : Int) = 45
  · have h3' : ((l[0].toNat : Int) == 45) = true := by simp [h3]
    have E := Lib.hid (labelOk_no (l := l) (by rw [g0.out]; omega))
    clear h3
    go_wp2
    go_ret
    exact ⟨ret_bool (by rw [← HB.out, E.out]), rfl⟩
  have h3' : ((l[0].toNat : Int) == 45) = false := by simpa using h3
  have q4 : l.length - 1 < l.length := by omega
  have q1 : (l.length : Int) - 1 < (l.length : Int) := by omega
  have q2 : 0 ≤ (l.length : Int) - 1 := by omega
  have q3 : ((l.length : Int) - 1).toNat = l.length - 1 := by omega
  by_cases h4 : ((l[l.length - 1]'q4).toNat : Int) = 45
  · have h4' : (((l[l.length - 1]'q4).toNat : Int) == 45) = true := by simp [h4]
    have E := Lib.hid (labelOk_no (l := l) (by rw [gl.out]; omega))
    clear h3 h4
    go_wp2
    go_ret
    exact ⟨ret_bool (by rw [← HB.out, E.out]), rfl⟩
  have h4' : (((l[l.length - 1]'q4).toNat : Int) == 45) = false := by simpa using h4
  have EE : Hid (labelOk l = l.all lab) := by
    unfold Hid labelOk
    rw [decide_eq_true (by rw [g0.out, gl.out]; omega)]; rfl
  clear h3 h4
  go_wp2
  go_loop [3] (fun i => ∃ k : Nat, k ≤ l.length ∧ i = .int .i64 k ∧ (l.take k).all lab = true) (fun i => l.length - (intOf i).toNat)
  case atStart => exact ⟨0, by omega, rfl, rfl⟩
  case round =>
    clear g0 gl h3' h4'
    obtain ⟨k, hk, rfl, ha⟩ := hrel
    have HA := Lib.hid ha; clear ha
    by_cases hlt : k < l.length
    · have hb1 : (k : Int) < (l.length : Int) := by omega
      rcases lab_parts l[k] with ⟨e, e1 | ⟨e1, e2⟩ | ⟨e1, e2, e3⟩⟩ | ⟨e, e1, e2, e3⟩
      · have E := Lib.hid e; have E1 := Lib.hid e1; clear e e1
        go_wp2_with fail
        refine (digit_any _ _ E1.out _).mono ?_
        rintro e w1 ⟨rfl, rfl⟩
        go_wp2_with fail
        go_round
        case rel => exact ⟨k + 1, by omega, by go_num, all_snoc hlt HA.out E.out⟩
        case measure => simp [intOf]; omega
      · have E := Lib.hid e; have E1 := Lib.hid e1; have E2 := Lib.hid e2; clear e e1 e2
        go_wp2_with fail
        refine (digit_any _ _ E1.out _).mono ?_
        rintro e w1 ⟨rfl, rfl⟩
        go_wp2_with fail
        refine (letter3_any _ _ E2.out _).mono ?_
        rintro e w1 ⟨rfl, rfl⟩
        go_wp2_with fail
        go_round
        case rel => exact ⟨k + 1, by omega, by go_num, all_snoc hlt HA.out E.out⟩
        case measure => simp [intOf]; omega
      · have E := Lib.hid e; have E1 := Lib.hid e1; have E2 := Lib.hid e2; clear e e1 e2
        have f1 : ((l[k].toNat : Int) != 45) = false := by simp; omega
        clear e3
        go_wp2_with fail
        refine (digit_any _ _ E1.out _).mono ?_
        rintro e w1 ⟨rfl, rfl⟩
        go_wp2_with fail
        refine (letter3_any _ _ E2.out _).mono ?_
        rintro e w1 ⟨rfl, rfl⟩
        go_wp2_with fail
        go_round
        case rel => exact ⟨k + 1, by omega, by go_num, all_snoc hlt HA.out E.out⟩
        case measure => simp [intOf]; omega
      · have E := Lib.hid e; have E1 := Lib.hid e1; have E2 := Lib.hid e2; clear e e1 e2
        have f1 : ((l[k].toNat : Int) != 45) = true := by simp; omega
        clear e3
        go_wp2_with fail
        refine (digit_any _ _ E1.out _).mono ?_
        rintro e w1 ⟨rfl, rfl⟩
        go_wp2_with fail
        refine (letter3_any _ _ E2.out _).mono ?_
        rintro e w1 ⟨rfl, rfl⟩
        go_wp2
        go_ret
        exact ⟨ret_bool (by rw [← HB.out, EE.out, all_not hlt E.out]), rfl⟩
    · obtain rfl : k = l.length := by omega
      go_wp2
      go_ret
      have h1 := HA.out
      rw [List.take_length] at h1
      exact ⟨ret_bool (by rw [← HB.out, EE.out, h1]), rfl⟩
end Go.Proofs.YtlmifdkhdcbniaaDoor
