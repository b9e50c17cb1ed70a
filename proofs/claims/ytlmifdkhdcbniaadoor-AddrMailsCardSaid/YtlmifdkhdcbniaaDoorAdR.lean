/- mailroomref04: quoted, Parse. -/
import Derived.Test.YtlmifdkhdcbniaaDoorAdQ
import Derived.Test.YtlmifdkhdcbniaaDoorAdE
import Derived.Test.YtlmifdkhdcbniaaDoorNameL
namespace Go.Proofs.YtlmifdkhdcbniaaDoor
set_option linter.all false
open Go.RowKit

theorem quoted_pre {s : List UInt8} (h : (cutPre 34 s).2 = false) : quotedB s = false := by unfold quotedB; rw [h]; rfl
theorem quoted_suf {s : List UInt8} (h : (cutSuf 34 (cutPre 34 s).1).2 = false) : quotedB s = false := by unfold quotedB; rw [h]; simp
theorem quoted_in {s t : List UInt8} (h1 : (cutPre 34 s).2 = true) (h2 : (cutSuf 34 (cutPre 34 s).1).2 = true) (h3 : (cutSuf 34 (cutPre 34 s).1).1 = t) : quotedB s = ((eachRun stepQ false t).1 && !(eachRun stepQ false t).2) := by
  unfold quotedB; rw [h1, h2, h3]; simp
/-- a text of two bytes and more, its ends -/
theorem two_ends {s : List UInt8} (h : 2 ≤ s.length) (p q : UInt8) : (cutPre p s).2 = (s[0]'(by omega) == p) ∧ ((s[0]'(by omega)) = p → (cutSuf q (cutPre p s).1).2 = (s[s.length - 1]'(by omega) == q) ∧ (s[s.length - 1]'(by omega) = q → (cutSuf q (cutPre p s).1).1 = (s.drop 1).take (s.length - 1 - 1))) := by
  match s, h with
  | a :: b :: r, h =>
    refine ⟨?_, fun ha => ?_⟩
    · simp only [cutPre, List.getElem_cons_zero]
      by_cases e : a = p
      · subst e; simp
      · simp [e]
    · simp only [List.getElem_cons_zero] at ha
      have e1 : cutPre p (a :: b :: r) = (b :: r, true) := by simp [cutPre, ha]
      rw [e1]
      have e2 : (b :: r).getLast? = some ((a :: b :: r)[(a :: b :: r).length - 1]'(by simp)) := by
        rw [List.getLast?_eq_getElem?]
        simp
      refine ⟨?_, fun hb => ?_⟩
      · rw [cutSuf_snd, e2]; simp
      · unfold cutSuf
        rw [if_pos (by rw [e2, hb])]
        simp [List.dropLast_eq_take]
theorem stepQ_92 (b : Bool) : stepQ b 92 = (true, !b) := by cases b <;> rfl
theorem stepQ_no {c : UInt8} (h : (c == 92) = false) : stepQ false c = (decide (32 ≤ c.toNat ∧ c.toNat ≤ 126) && !(c == 34), false) := by unfold stepQ; rw [h]; simp
theorem stepQ_mark (c : UInt8) : stepQ true c = (decide (32 ≤ c.toNat ∧ c.toNat ≤ 126), false) := by unfold stepQ; simp
set_option maxRecDepth 100000 in
set_option maxHeartbeats 4000000 in
theorem rquoted_any (s : List UInt8) (hs : s.length ≤ 1000000) (w : World) : Calls Tryd.prog 39 #[.string ⟨s.toArray⟩] w fun e w' => e = .returned (.bool (quotedB s)) ∧ w = w' := by
  by_cases h2 : s.length < 2
  · have fin : quotedB s = false := by
      match s, h2 with
      | [], _ => rfl
      | [c], _ =>
        unfold quotedB cutPre
        by_cases e : c = 34
        · subst e; rfl
        · simp [e]
    rw [fin]
    have h2' : (s.length : Int) < 2 := by omega
    go_enter Tryd.func39, Tryd.ntmps39
    go_wp2
    go_ret
    exact ⟨rfl, rfl⟩
  have h2' : ¬ (s.length : Int) < 2 := by omega
  obtain ⟨e1, e2⟩ := two_ends (s := s) (by omega) 34 34
  have p0 : 0 < s.length := by omega
  have c0 := b_is (s[0]'p0) 34 34 rfl
  rcases Bool.eq_false_or_eq_true (s[0]'p0 == 34) with q0 | q0
  rotate_left
  · rw [quoted_pre (e1.trans q0)]
    rw [q0] at c0
    have c0' : ((s[0].toNat : Int) != 34) = true := by rw [bne, c0]; rfl
    clear e1 e2 q0
    go_enter Tryd.func39, Tryd.ntmps39
    go_wp2
    go_ret
    exact ⟨rfl, rfl⟩
  obtain ⟨e3, e4⟩ := e2 (by simpa using q0)
  clear e2
  rw [q0] at c0
  have c0' : ((s[0].toNat : Int) != 34) = false := by rw [bne, c0]; rfl
  have pl : s.length - 1 < s.length := by omega
  have cl := b_is (s[s.length - 1]'pl) 34 34 rfl
  have i1 : (s.length : Int) - 1 < (s.length : Int) := by omega
  have i2 : 0 ≤ (s.length : Int) - 1 := by omega
  have i4 : 1 ≤ (s.length : Int) := by omega
  have i3 : ((s.length : Int) - 1).toNat = s.length - 1 := by omega
  have s1 : IntKind.i64.wrap ((s.length : Int) - 1) = ((s.length - 1 : Nat) : Int) := by rw [IntWalk.i64_in _ (by omega)]; omega
  rcases Bool.eq_false_or_eq_true (s[s.length - 1]'pl == 34) with ql | ql
  rotate_left
  · rw [quoted_suf (e3.trans ql)]
    rw [ql] at cl
    have cl' : ((s[s.length - 1].toNat : Int) != 34) = true := by rw [bne, cl]; rfl
    clear e1 e3 e4 q0 ql s1
    go_enter Tryd.func39, Tryd.ntmps39
    go_wp2
    go_ret
    exact ⟨rfl, rfl⟩
  have AB := Lib.hid (quoted_in (e1.trans q0) (e3.trans ql) (e4 (by simpa using ql)))
  rw [ql] at cl
  have cl' : ((s[s.length - 1].toNat : Int) != 34) = false := by rw [bne, cl]; rfl
  clear e1 e3 e4 q0 ql
  have hlt : ((s.drop 1).take (s.length - 1 - 1)).length ≤ 1000000 := by simp; omega
  have sub := run_sub s 1 (s.length - 1) (by omega) (by omega)
  rw [show ((s.length - 1 : Nat) : Int) = (s.length : Int) - 1 by omega, show ((1 : Nat) : Int) = 1 from rfl] at sub
  generalize (s.drop 1).take (s.length - 1 - 1) = t at AB hlt sub
  generalize quotedB s = r at AB ⊢
  clear s1
  go_enter Tryd.func39, Tryd.ntmps39
  go_wp2_with fail
  clear sub cl cl' c0 c0'
  go_loopw [4] (fun iv wr => ∃ k : Nat, k ≤ t.length ∧ iv = .int .i64 k ∧ eachRun stepQ false (t.take k) = (true, false) ∧ w = wr) (fun iv _ => t.length - (intOf iv).toNat)
  case atStart => exact ⟨0, by omega, rfl, rfl, rfl⟩
  case round =>
    obtain ⟨k, hk, rfl, ha, rfl⟩ := hrel
    have HA := Lib.hid ha
    clear ha
    by_cases hlt' : k < t.length
    · have hb1 : (k : Int) < (t.length : Int) := by omega
      have NX := Lib.hid (each_at hlt' HA.out)
      have ck := b_is t[k] 92 92 rfl
      have s1 : IntKind.i64.wrap ((k : Int) + 1) = ((k + 1 : Nat) : Int) := by rw [IntWalk.i64_in _ (by omega)]; omega
      rcases Bool.eq_false_or_eq_true (t[k] == 92) with qk | qk
      · rw [qk] at ck
        have e92 : t[k] = 92 := by simpa using qk
        have NX2 : Hid (eachRun stepQ false (t.take (k + 1)) = (true, true)) := by unfold Hid; rw [NX.out, e92]; rfl
        clear qk e92
        by_cases hend : k + 1 < t.length
        · have hb2 : ((k + 1 : Nat) : Int) < (t.length : Int) := by omega
          have hb3 : ¬ (t.length : Int) ≤ ((k + 1 : Nat) : Int) := by omega
          have hb4 : (k : Int) + 1 < (t.length : Int) := by omega
          have hb5 : ¬ (t.length : Int) ≤ (k : Int) + 1 := by omega
          have NX3 : Hid (eachRun stepQ false (t.take (k + 1 + 1)) = (decide (32 ≤ t[k + 1].toNat ∧ t[k + 1].toNat ≤ 126), false)) := by
            unfold Hid; rw [each_at hend NX2.out, stepQ_mark]
          by_cases r1 : (t[k + 1].toNat : Int) < 32
          · have fin : r = false := by rw [AB.out, each_off (NX3.out.trans (by rw [decide_eq_false (by omega)]))]; rfl
            subst fin
            go_wp2
            go_ret
            exact ⟨rfl, rfl⟩
          · by_cases r2 : 126 < (t[k + 1].toNat : Int)
            · have fin : r = false := by rw [AB.out, each_off (NX3.out.trans (by rw [decide_eq_false (by omega)]))]; rfl
              subst fin
              go_wp2
              go_ret
              exact ⟨rfl, rfl⟩
            · have NX4 : Hid (eachRun stepQ false (t.take (k + 1 + 1)) = (true, false)) := by unfold Hid; rw [NX3.out, decide_eq_true (by omega)]
              go_wp2
              go_roundw
              case rel => exact ⟨k + 1 + 1, by omega, by go_num, NX4.out, by simp⟩
              case measure => simp [intOf]; omega
        · have hb3 : (t.length : Int) ≤ (k : Int) + 1 := by omega
          have fin : r = false := by
            rw [AB.out]
            have h1 := NX2.out
            rw [List.take_of_length_le (by omega)] at h1
            rw [h1]; rfl
          subst fin
          go_wp2
          go_ret
          exact ⟨rfl, rfl⟩
      · rw [qk] at ck
        have NX2 : Hid (eachRun stepQ false (t.take (k + 1)) = (decide (32 ≤ t[k].toNat ∧ t[k].toNat ≤ 126) && !(t[k] == 34), false)) := by
          unfold Hid; rw [NX.out, stepQ_no qk]
        clear qk
        have c34 := b_is t[k] 34 34 rfl
        rcases Bool.eq_false_or_eq_true (t[k] == 34) with q3 | q3
        · rw [q3] at c34
          have fin : r = false := by rw [AB.out, each_off (NX2.out.trans (by rw [q3]; simp; rfl))]; rfl
          subst fin
          clear q3
          go_wp2
          go_ret
          exact ⟨rfl, rfl⟩
        rw [q3] at c34
        have NX3 : Hid (eachRun stepQ false (t.take (k + 1)) = (decide (32 ≤ t[k].toNat ∧ t[k].toNat ≤ 126), false)) := by
          unfold Hid; rw [NX2.out, q3]; simp
        clear q3
        by_cases r1 : (t[k].toNat : Int) < 32
        · have fin : r = false := by rw [AB.out, each_off (NX3.out.trans (by rw [decide_eq_false (by omega)]))]; rfl
          subst fin
          go_wp2
          go_ret
          exact ⟨rfl, rfl⟩
        · by_cases r2 : 126 < (t[k].toNat : Int)
          · have fin : r = false := by rw [AB.out, each_off (NX3.out.trans (by rw [decide_eq_false (by omega)]))]; rfl
            subst fin
            go_wp2
            go_ret
            exact ⟨rfl, rfl⟩
          · have NX4 : Hid (eachRun stepQ false (t.take (k + 1)) = (true, false)) := by unfold Hid; rw [NX3.out, decide_eq_true (by omega)]
            go_wp2
            go_roundw
            case rel => exact ⟨k + 1, by omega, by go_num, NX4.out, by simp⟩
            case measure => simp [intOf]; omega
    · obtain rfl : k = t.length := by omega
      have fin : r = true := by
        rw [AB.out]
        have h1 := HA.out
        rw [List.take_length] at h1
        rw [h1]; rfl
      subst fin
      go_wp2
      go_ret
      exact ⟨rfl, rfl⟩

set_option maxRecDepth 100000 in
set_option maxHeartbeats 4000000 in
theorem rparse_any (s : List UInt8) (hs : s.length ≤ 1000000) (w : World) : Calls Tryd.prog 16 #[.string ⟨s.toArray⟩] w fun e w' => e = .returned (parseV s) ∧ Chg [] w w' := by
  have HNO := fun h => Lib.hid (parseV_false (s := s) h)
  have HYES := fun h => Lib.hid (parseV_true (s := s) h)
  generalize hr : parseV s = r at HNO HYES ⊢
  clear hr
  have w0 : IntKind.i64.wrap ((s.length : Int) - 1) = (s.length : Int) - 1 := IntWalk.i64_in _ (by omega)
  go_enter Tryd.func16, Tryd.ntmps16
  go_wp2_with fail
  go_loopw [5] (fun iv wr => ∃ k : Nat, k ≤ s.length ∧ iv = .int .i64 ((k : Int) - 1) ∧ (∀ j (h : j < s.length), k ≤ j → s[j] ≠ 64) ∧ w = wr) (fun iv _ => (intOf iv + 1).toNat)
  case atStart => exact ⟨s.length, by omega, rfl, fun j h h' => by omega, rfl⟩
  case round =>
    clear w0
    obtain ⟨k, hk, rfl, hn, rfl⟩ := hrel
    have HN := Lib.hid hn
    clear hn
    by_cases hz : k = 0
    · subst hz
      have hl : lastAt s = 0 := by
        cases e : lastAt s with
        | zero => rfl
        | succ i =>
          obtain ⟨q1, q2, _⟩ := lastAt_succ e
          exact absurd q2 (HN.out i q1 (by omega))
      have R := HNO (parseB_loc (by unfold locOk; rw [hl]; rfl))
      have hc : ¬ (0 : Int) ≤ (((0 : Nat) : Int) - 1) := by omega
      clear HNO HYES hl
      go_wp2
      go_returns
      exact ⟨congrArg Ending.returned R.out.symm, Chg.refl _ _⟩
    obtain ⟨m, rfl⟩ : ∃ m, k = m + 1 := ⟨k - 1, by omega⟩
    rw [show ((m + 1 : Nat) : Int) - 1 = (m : Int) by omega]
    have hlt : m < s.length := by omega
    have hb1 : (m : Int) < (s.length : Int) := by omega
    have c64 := b_is s[m] 64 64 rfl
    rcases Bool.eq_false_or_eq_true (s[m] == 64) with q | q
    rotate_left
    · rw [q] at c64
      have c64' : ((s[m].toNat : Int) != 64) = true := by rw [bne, c64]; rfl
      have s1 : IntKind.i64.wrap ((m : Int) - 1) = (m : Int) - 1 := IntWalk.i64_in _ (by omega)
      have NX : Hid (∀ j (h : j < s.length), m ≤ j → s[j] ≠ 64) := by
        intro j h hj
        by_cases e : j = m
        · subst e; simpa using q
        · exact HN.out j h (by omega)
      clear q
      go_wp2
      go_roundw
      case rel => exact ⟨m, by omega, rfl, NX.out, by simp⟩
      case measure => simp [intOf]
    have hl : lastAt s = m + 1 := by
      cases e : lastAt s with
      | zero => exact absurd (by simpa using q) (lastAt_zero e m hlt)
      | succ i =>
        obtain ⟨q1, q2, q3⟩ := lastAt_succ e
        rcases Nat.lt_trichotomy i m with h | h | h
        · exact absurd (by simpa using q) (q3 m hlt h)
        · rw [h]
        · exact absurd q2 (HN.out i q1 (by omega))
    have LO : Hid (locOk s = (decide (1 ≤ m ∧ m ≤ 64) && (!(s.getLast? == some 46) && (atomsB (s.take m) || quotedB (s.take m))))) := by
      unfold Hid locOk
      rw [hl]
      congr 1
      rw [decide_eq_decide]; omega
    have LL : Hid (locL s = s.take m) := by unfold Hid locL; rw [hl]; rfl
    have LD : Hid (domL s = folded (s.drop (m + 1))) := by unfold Hid domL; rw [hl]
    have PM : Hid (locOk s = true → parseB s = may (domL s)) := by
      unfold Hid; intro h; exact parseB_may h
    rw [q] at c64
    have c64' : ((s[m].toNat : Int) != 64) = false := by rw [bne, c64]; rfl
    clear HN q hl
    by_cases h1 : m < 1
    · have R := HNO (parseB_loc (by rw [LO.out, decide_eq_false (by omega)]; rfl))
      have h1' : (m : Int) < 1 := by omega
      clear HNO HYES LO PM
      go_wp2
      go_returns
      exact ⟨congrArg Ending.returned R.out.symm, Chg.refl _ _⟩
    have h1' : ¬ (m : Int) < 1 := by omega
    have h1b : 1 ≤ (m : Int) := by omega
    by_cases h2 : 64 < m
    · have R := HNO (parseB_loc (by rw [LO.out, decide_eq_false (by omega)]; rfl))
      have h2' : 64 < (m : Int) := by omega
      clear HNO HYES LO PM
      go_wp2
      go_returns
      exact ⟨congrArg Ending.returned R.out.symm, Chg.refl _ _⟩
    have h2' : ¬ 64 < (m : Int) := by omega
    have LO2 : Hid (locOk s = (!(s.getLast? == some 46) && (atomsB (s.take m) || quotedB (s.take m)))) := by
      unfold Hid; rw [LO.out, decide_eq_true (by omega)]; rfl
    clear LO
    have pl : s.length - 1 < s.length := by omega
    have i1 : (s.length : Int) - 1 < (s.length : Int) := by omega
    have i2 : 0 ≤ (s.length : Int) - 1 := by omega
    have i4 : 1 ≤ (s.length : Int) := by omega
    have i3 : ((s.length : Int) - 1).toNat = s.length - 1 := by omega
    have cl := b_is (s[s.length - 1]'pl) 46 46 rfl
    have el : (s.getLast? == some 46) = (s[s.length - 1]'pl == 46) := by
      rw [List.getLast?_eq_getElem?, List.getElem?_eq_getElem pl]; rfl
    rw [el] at LO2
    clear el
    have sT := run_subTo s m (by omega)
    rcases Bool.eq_false_or_eq_true (s[s.length - 1]'pl == 46) with ql | ql
    · rw [ql] at cl LO2
      have R := HNO (parseB_loc (by rw [LO2.out]; rfl))
      clear HNO HYES LO2 PM ql
      go_wp2
      go_returns
      exact ⟨congrArg Ending.returned R.out.symm, Chg.refl _ _⟩
    rw [ql] at cl LO2
    clear ql
    have RA := fun w => ratoms_any (s.take m) (by simp; omega) w
    have RQ := fun w => rquoted_any (s.take m) (by simp; omega) w
    generalize hu : s.take m = u at RA RQ sT LL LO2
    clear hu
    generalize atomsB u = a at RA LO2
    generalize quotedB u = q1 at RQ LO2
    go_wp2_with fail
    refine (RA _).mono ?_
    rintro e w1 ⟨rfl, rfl⟩
    have s1 : IntKind.i64.wrap ((m : Int) + 1) = ((m + 1 : Nat) : Int) := by rw [IntWalk.i64_in _ (by omega)]; omega
    have sF := run_subFrom s (m + 1) (by omega)
    have FA := fun w => fold3_any (s.drop (m + 1)) w (by simp; omega)
    cases a
    focus
      go_wp2_with fail
      refine (RQ _).mono ?_
      rintro e w1 ⟨rfl, rfl⟩
      cases q1
      · have R := HNO (parseB_loc (by rw [LO2.out]; rfl))
        clear HNO HYES LO2 PM
        go_wp2
        go_returns
        exact ⟨congrArg Ending.returned R.out.symm, Chg.refl _ _⟩
      have L1 := Lib.hid (PM.out (by rw [LO2.out]; rfl))
      clear LO2 PM
    rotate_left
    focus
      have L1 := Lib.hid (PM.out (by rw [LO2.out]; rfl))
      clear LO2 PM
    all_goals
      go_wp2_with fail
      refine (FA _).mono ?_
      clear FA RA RQ sF s1
      rintro e w1 ⟨rfl, ch⟩
      unfold foldV
      rw [← LD.out]
      cases hmay : may (domL s)
      · have R := HNO (by rw [L1.out, hmay])
        clear HNO HYES L1 hmay
        go_wp2
        go_returns
        exact ⟨congrArg Ending.returned R.out.symm, ch⟩
      · have R := HYES (by rw [L1.out, hmay])
        rw [LL.out] at R
        clear HNO HYES L1 hmay LD LL
        generalize domL s = d at R ⊢
        go_wp2
        go_returns
        exact ⟨congrArg Ending.returned R.out.symm, ch⟩
end Go.Proofs.YtlmifdkhdcbniaaDoor
