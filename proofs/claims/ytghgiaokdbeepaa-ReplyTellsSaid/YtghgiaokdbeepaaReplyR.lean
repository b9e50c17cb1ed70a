/- mailroomref05: digit, Parse, Class. -/
import Derived.Test.YtghgiaokdbeepaaReplyQ
namespace Go.Proofs.Ytghgiaokdbeepaa
set_option linter.all false
open Go.RowKit

theorem digit5_any (b lw hg : Int) (w : World) (r : Bool) (hr : decide (lw ≤ b ∧ b ≤ hg) = r) : Calls Try.prog 36 #[.int .u8 b, .int .u8 lw, .int .u8 hg] w fun e w' => e = .returned (.bool r) ∧ w = w' := by
  have R := Lib.hid hr; clear hr
  by_cases h1 : lw ≤ b
  · by_cases h2 : b ≤ hg
    · go_enter Try.func36, Try.ntmps36
      go_wp2
      go_ret
      exact ⟨ret_bool (by rw [← R.out]; simp [h1, h2]), rfl⟩
    · go_enter Try.func36, Try.ntmps36
      go_wp2
      go_ret
      exact ⟨ret_bool (by rw [← R.out]; simp [h1, h2]), rfl⟩
  · go_enter Try.func36, Try.ntmps36
    go_wp2
    go_ret
    exact ⟨ret_bool (by rw [← R.out]; simp; omega), rfl⟩

theorem class5_any (n : Int) (w : World) : Calls Try.prog 28 #[.int .i64 n] w fun e w' => e = .returned (.int .i64 (classOf n)) ∧ w = w' := by
  go_enter Try.func28, Try.ntmps28
  go_wp2
  go_loop [3] (fun i => ∃ k : Nat, 2 ≤ k ∧ k ≤ 6 ∧ i = .int .i64 k ∧ (∀ j : Int, 2 ≤ j → j < k → ¬ (100 * j ≤ n ∧ n < 100 * j + 100))) (fun i => 6 - (intOf i).toNat)
  case atStart => exact ⟨2, by omega, by omega, rfl, fun j h1 h2 => by omega⟩
  case round =>
    obtain ⟨k, h2, h6, rfl, hall⟩ := hrel
    have A := Lib.hid hall; clear hall
    by_cases hk : k = 6
    · subst hk
      go_wp2
      go_ret
      refine ⟨ret_int ?_, rfl⟩
      have a2 := A.out 2 (by omega) (by omega)
      have a3 := A.out 3 (by omega) (by omega)
      have a4 := A.out 4 (by omega) (by omega)
      have a5 := A.out 5 (by omega) (by omega)
      unfold classOf
      split <;> omega
    · have hk5 : (k : Int) ≤ 5 := by omega
      clear hk
      by_cases h1 : 100 * (k : Int) ≤ n
      · by_cases h3 : n < 100 * (k : Int) + 100
        · go_wp2
          go_ret
          refine ⟨ret_int ?_, rfl⟩
          unfold classOf
          split <;> omega
        · go_wp2
          go_round
          case rel => exact ⟨k + 1, by omega, by omega, by go_num, fun j hj hk => by
            by_cases e : j = k
            · subst e; omega
            · exact A.out j hj (by omega)⟩
          case measure => simp [intOf]; omega
      · go_wp2
        go_round
        case rel => exact ⟨k + 1, by omega, by omega, by go_num, fun j hj hk => by
          by_cases e : j = k
          · subst e; omega
          · exact A.out j hj (by omega)⟩
        case measure => simp [intOf]; omega

theorem dig_int {l : List UInt8} {k : Nat} (h : k < l.length) {a b : Int} (ha : a = (lo k : Nat)) (hb : b = (hi k : Nat)) : decide (a ≤ (l[k].toNat : Int) ∧ (l[k].toNat : Int) ≤ b) = digOk l k := by
  subst ha hb
  unfold digOk
  rw [getD_lt l k h, Bool.eq_iff_iff]
  simp only [decide_eq_true_eq]
  omega
theorem all_at {p : UInt8 → Bool} {l : List UInt8} {k : Nat} (hk : 4 ≤ k) (h : k < l.length) (ha : ((l.drop 4).take (k - 4)).all p = true) (hp : p l[k] = true) : ((l.drop 4).take (k + 1 - 4)).all p = true := by
  have hl : k - 4 < (l.drop 4).length := by simp; omega
  have e : (l.drop 4)[k - 4] = l[k] := by simp [show 4 + (k - 4) = k by omega]
  have := all_snoc hl ha (by rw [e]; exact hp)
  rwa [show k - 4 + 1 = k + 1 - 4 by omega] at this
theorem not_at {p : UInt8 → Bool} {l : List UInt8} {k : Nat} (hk : 4 ≤ k) (h : k < l.length) (hp : p l[k] = false) : (l.drop 4).all p = false := by
  have hl : k - 4 < (l.drop 4).length := by simp; omega
  have e : (l.drop 4)[k - 4] = l[k] := by simp [show 4 + (k - 4) = k by omega]
  exact all_not hl (by rw [e]; exact hp)

set_option maxHeartbeats 2000000 in
theorem parse5_any (l : List UInt8) (w : World) (hs : l.length ≤ maxLen) :
    Calls Try.prog 27 #[.string ⟨l.toArray⟩] w fun e w' => e = .returned (parsedV (parse l)) ∧ Chg [] w w' := by
  unfold maxLen at hs
  by_cases h3 : l.length < 3
  · go_enter Try.func27, Try.ntmps27
    go_wp2
    exact bodyPost_ret (v := parsedV badLine) (by simp [results, Try.results27, go_sem, parsedV, badLine]) rfl ⟨by rw [parse_bad (.inl h3)], Chg.refl _ _⟩
  have l0 : 0 < l.length := by omega
  have l1 : (1 : Int) < (l.length : Int) := by omega
  have l2 : (2 : Int) < (l.length : Int) := by omega
  have h3' : decide ((l.length : Int) < 3) = false := by simp; omega
  cases d0 : digOk l 0
  · have D0 := Lib.hid d0; clear d0
    go_enter Try.func27, Try.ntmps27
    go_wp2_with fail
    refine (digit5_any _ _ _ _ false (by exact (dig_int (l := l) (k := 0) (by omega) rfl rfl).trans D0.out)).mono ?_
    rintro e w' ⟨rfl, rfl⟩
    go_wp2_with fail
    exact bodyPost_ret (v := parsedV badLine) (by simp [results, Try.results27, go_sem, parsedV, badLine]) rfl ⟨by rw [parse_bad_at (k := 0) (by omega) D0.out], Chg.refl _ _⟩
  cases d1 : digOk l 1
  · have D0 := Lib.hid d0; clear d0
    have D1 := Lib.hid d1; clear d1
    go_enter Try.func27, Try.ntmps27
    go_wp2_with fail
    refine (digit5_any _ _ _ _ true (by exact (dig_int (l := l) (k := 0) (by omega) rfl rfl).trans D0.out)).mono ?_
    rintro e w' ⟨rfl, rfl⟩
    go_wp2_with fail
    refine (digit5_any _ _ _ _ false (by exact (dig_int (l := l) (k := 1) (by omega) rfl rfl).trans D1.out)).mono ?_
    rintro e w' ⟨rfl, rfl⟩
    go_wp2_with fail
    exact bodyPost_ret (v := parsedV badLine) (by simp [results, Try.results27, go_sem, parsedV, badLine]) rfl ⟨by rw [parse_bad_at (k := 1) (by omega) D1.out], Chg.refl _ _⟩
  cases d2 : digOk l 2
  · have D0 := Lib.hid d0; clear d0
    have D1 := Lib.hid d1; clear d1
    have D2 := Lib.hid d2; clear d2
    go_enter Try.func27, Try.ntmps27
    go_wp2_with fail
    refine (digit5_any _ _ _ _ true (by exact (dig_int (l := l) (k := 0) (by omega) rfl rfl).trans D0.out)).mono ?_
    rintro e w' ⟨rfl, rfl⟩
    go_wp2_with fail
    refine (digit5_any _ _ _ _ true (by exact (dig_int (l := l) (k := 1) (by omega) rfl rfl).trans D1.out)).mono ?_
    rintro e w' ⟨rfl, rfl⟩
    go_wp2_with fail
    refine (digit5_any _ _ _ _ false (by exact (dig_int (l := l) (k := 2) (by omega) rfl rfl).trans D2.out)).mono ?_
    rintro e w' ⟨rfl, rfl⟩
    go_wp2_with fail
    exact bodyPost_ret (v := parsedV badLine) (by simp [results, Try.results27, go_sem, parsedV, badLine]) rfl ⟨by rw [parse_bad_at (k := 2) (by omega) D2.out], Chg.refl _ _⟩
  have hp := Lib.hid (parse_go h3 (fun j hj => by obtain rfl | rfl | rfl : j = 0 ∨ j = 1 ∨ j = 2 := by omega
                                                  all_goals assumption))
  have b0 := digOk_bd d0; have b1 := digOk_bd d1; have b2 := digOk_bd d2
  have hnum : Hid ((100 : Int) * ((l[0].toNat : Int) - (48 : Int)) + (10 : Int) * ((l[1].toNat : Int) - (48 : Int)) + ((l[2].toNat : Int) - (48 : Int)) = num l 3) := by
    unfold Hid; rw [num_succ l 2 (by omega), num_succ l 1 (by omega), num_succ l 0 (by omega)]; simp [num]; omega
  rw [getD_lt l 0 (by omega)] at b0
  rw [getD_lt l 1 (by omega)] at b1
  rw [getD_lt l 2 (by omega)] at b2
  simp only [lo, hi] at b0 b1 b2
  simp only [if_true, Nat.reduceEqDiff, if_false] at b0 b1 b2
  have e0 : 50 ≤ (l[0].toNat : Int) := by omega
  have e0' : (l[0].toNat : Int) ≤ 53 := by omega
  have e1 : 48 ≤ (l[1].toNat : Int) := by omega
  have e1' : (l[1].toNat : Int) ≤ 53 := by omega
  have e2 : 48 ≤ (l[2].toNat : Int) := by omega
  have e2' : (l[2].toNat : Int) ≤ 57 := by omega
  have D0 := Lib.hid d0; have D1 := Lib.hid d1; have D2 := Lib.hid d2
  clear d0 d1 d2 b0 b1 b2
  by_cases h4 : l.length = 3
  · have h4' : ((l.length : Int) == 3) = true := by simp [h4]
    have h4'' : decide ((3 : Int) < (l.length : Int)) = false := by simp; omega
    have H4 := Lib.hid h4; clear h4
    go_enter Try.func27, Try.ntmps27
    go_wp2_with fail
    refine (digit5_any _ _ _ _ true (by exact (dig_int (l := l) (k := 0) (by omega) rfl rfl).trans D0.out)).mono ?_
    rintro e w' ⟨rfl, rfl⟩
    go_wp2_with fail
    refine (digit5_any _ _ _ _ true (by exact (dig_int (l := l) (k := 1) (by omega) rfl rfl).trans D1.out)).mono ?_
    rintro e w' ⟨rfl, rfl⟩
    go_wp2_with fail
    refine (digit5_any _ _ _ _ true (by exact (dig_int (l := l) (k := 2) (by omega) rfl rfl).trans D2.out)).mono ?_
    rintro e w' ⟨rfl, rfl⟩
    go_wp2_with fail
    go_quiet (fail)
    go_wp2_with fail
    exact bodyPost_ret (v := parsedV ⟨num l 3, false, [], 0⟩) (by rw [← hnum.out]; simp [results, Try.results27, go_sem, parsedV, badLine]) rfl ⟨by rw [hp.out, if_pos H4.out], (Chg.refl _ _).drewN _⟩
  have h4' : ((l.length : Int) == 3) = false := by simp; omega
  have hl3 : (3 : Int) < (l.length : Int) := by omega
  have h4'' : decide ((3 : Int) < (l.length : Int)) = true := by simp; omega
  have hg := Lib.hid (getD_lt l 3 (by omega))
  rcases c3_or l[3] with ⟨hc, hc'⟩ | ⟨hc, hc'⟩ | ⟨hc, hc'⟩
  all_goals
    have t32 : ((l[3].toNat : Int) != 32) = decide (¬ (l[3].toNat : Int) = 32) := by simp [bne, BEq.beq]
    have t45 : ((l[3].toNat : Int) != 45) = decide (¬ (l[3].toNat : Int) = 45) := by simp [bne, BEq.beq]
    have u45 : ((l[3].toNat : Int) == 45) = decide ((l[3].toNat : Int) = 45) := by simp [BEq.beq]
    simp only [hc, hc', not_true, not_false_eq_true, decide_true, decide_false] at t32 t45 u45
    go_enter Try.func27, Try.ntmps27
    go_wp2_with fail
    refine (digit5_any _ _ _ _ true (by exact (dig_int (l := l) (k := 0) (by omega) rfl rfl).trans D0.out)).mono ?_
    rintro e w' ⟨rfl, rfl⟩
    go_wp2_with fail
    refine (digit5_any _ _ _ _ true (by exact (dig_int (l := l) (k := 1) (by omega) rfl rfl).trans D1.out)).mono ?_
    rintro e w' ⟨rfl, rfl⟩
    go_wp2_with fail
    refine (digit5_any _ _ _ _ true (by exact (dig_int (l := l) (k := 2) (by omega) rfl rfl).trans D2.out)).mono ?_
    rintro e w' ⟨rfl, rfl⟩
    go_wp2_with fail
    first
    | exact bodyPost_ret (v := parsedV badLine) (by simp [results, Try.results27, go_sem, parsedV, badLine]) rfl ⟨by rw [parse_tail_bad hp.out (by omega) hg.out rfl (.inr ⟨hc, hc'⟩)], Chg.refl _ _⟩
    | skip
  all_goals
    go_quiet (fail)
    go_wp2_with fail
    rw [hnum.out]
    go_loop [7] (fun i => ∃ k : Nat, 4 ≤ k ∧ k ≤ l.length ∧ i = .int .i64 k ∧ ((l.drop 4).take (k - 4)).all okByte = true) (fun i => l.length - (intOf i).toNat)
    case atStart => exact ⟨4, by omega, by omega, rfl, by simp⟩
    case round =>
      obtain ⟨k, hk4, hk, rfl, hall⟩ := hrel
      have H := Lib.hid hall; clear hall
      by_cases hlt : k < l.length
      · have hb1 : (k : Int) < (l.length : Int) := by omega
        have hcc : l[k].toNat = 9 ∨ (¬ l[k].toNat = 9 ∧ l[k].toNat < 32) ∨ (¬ l[k].toNat = 9 ∧ 126 < l[k].toNat) ∨ (¬ l[k].toNat = 9 ∧ 32 ≤ l[k].toNat ∧ l[k].toNat ≤ 126) := by omega
        rcases hcc with hcc | ⟨hcc, hd⟩ | ⟨hcc, hd⟩ | ⟨hcc, hd, he⟩
        all_goals
          go_wp2
          all_goals first
          | (exfalso; rename_i hx; simp at hx; omega)
          | (go_round
             case rel => exact ⟨k + 1, by omega, by omega, by go_num, all_at hk4 hlt H.out (okByte_true (by omega))⟩
             case measure => simp [intOf]; omega)
          | exact bodyPost_ret (v := parsedV badLine) (by simp [results, Try.results27, go_sem, parsedV, badLine]) rfl ⟨by rw [parse_tail_bad hp.out (by omega) hg.out rfl (.inl (not_at hk4 hlt (okByte_false (by omega))))], (Chg.refl _ _).drewN _⟩
      · have HT : Hid ((l.drop 4).all okByte = true) := by
          have := H.out
          unfold Hid
          rwa [List.take_of_length_le (by simp; omega)] at this
        go_wp2
        go_quiet (fail)
        go_wp2
        first
        | exact bodyPost_ret (v := parsedV ⟨num l 3, true, l.drop 4, 0⟩) (by simp [results, Try.results27, go_sem, parsedV, badLine]) rfl ⟨by rw [parse_tail_ok hp.out h4 hg.out HT.out (.inl ⟨hc', rfl⟩)], ((Chg.refl _ _).drewN _).drewN _⟩
        | exact bodyPost_ret (v := parsedV ⟨num l 3, false, l.drop 4, 0⟩) (by simp [results, Try.results27, go_sem, parsedV, badLine]) rfl ⟨by rw [parse_tail_ok hp.out h4 hg.out HT.out (.inr ⟨by omega, rfl⟩)], ((Chg.refl _ _).drewN _).drewN _⟩
        | go_goals
end Go.Proofs.Ytghgiaokdbeepaa
