/- mailroomref04: sign, atoms, quoted. -/
import Derived.Test.YtlmifdkhdcbniaaDoorAdC
namespace Go.Proofs.YtlmifdkhdcbniaaDoor
set_option linter.all false
open Go.RowKit

def signB (c : UInt8) : Bool := letterB c || signsL.contains c
theorem letterB_is (c : UInt8) : letterB c = true ∨ (letterB c = false ∧ ((c.toNat : Int) < 97 ∨ 122 < (c.toNat : Int)) ∧ ((c.toNat : Int) < 65 ∨ 90 < (c.toNat : Int)) ∧ ((c.toNat : Int) < 48 ∨ 57 < (c.toNat : Int))) := by
  by_cases h : letterB c = true
  · exact .inl h
  · right
    have h' : letterB c = false := by simpa using h
    refine ⟨h', ?_⟩
    unfold letterB at h'
    simp only [Bool.or_eq_false_iff, decide_eq_false_iff_not] at h'
    omega
theorem letterB_yes (c : UInt8) (h : letterB c = true) : (97 ≤ (c.toNat : Int) ∧ (c.toNat : Int) ≤ 122) ∨ ((c.toNat : Int) < 97 ∧ 65 ≤ (c.toNat : Int) ∧ (c.toNat : Int) ≤ 90) ∨ ((c.toNat : Int) < 65 ∧ 48 ≤ (c.toNat : Int) ∧ (c.toNat : Int) ≤ 57) := by
  unfold letterB at h
  simp only [Bool.or_eq_true, decide_eq_true_eq] at h
  omega
set_option maxHeartbeats 1000000 in
theorem sign_any (c : UInt8) (w : World) : Calls Tryd.prog 60 #[.int .u8 (c.toNat : Int)] w fun e w' => e = .returned (.bool (signB c)) ∧ w = w' := by
  have SB : Hid (signB c = (letterB c || signsL.contains c)) := rfl
  have NS : Hid (signsL.length = 19) := by unfold Hid; rfl
  generalize signB c = r at SB ⊢
  by_cases hl : letterB c = true
  · rw [hl] at SB
    have e : r = true := by rw [SB.out]; rfl
    subst e
    rcases letterB_yes c hl with ⟨h1, h2⟩ | ⟨h0, h1, h2⟩ | ⟨h0, h1, h2⟩
    · clear hl
      go_enter Tryd.func60, Tryd.ntmps60
      go_wp2
      go_ret
      exact ⟨rfl, rfl⟩
    · clear hl
      go_enter Tryd.func60, Tryd.ntmps60
      go_wp2
      go_ret
      exact ⟨rfl, rfl⟩
    · clear hl
      go_enter Tryd.func60, Tryd.ntmps60
      go_wp2
      go_ret
      exact ⟨rfl, rfl⟩
  · have hl' : letterB c = false := by simpa using hl
    rw [hl'] at SB
    rcases letterB_is c with h | ⟨-, h1, h2, h3⟩
    · exact absurd h hl
    clear hl hl'
    have R : Hid (r = signsL.contains c) := by unfold Hid; rw [SB.out]; rfl
    clear SB
    go_enter Tryd.func60, Tryd.ntmps60
    have H4 : (c.toNat : Int) < 48 ∨ (57 < (c.toNat : Int) ∧ (c.toNat : Int) < 65) ∨ (90 < (c.toNat : Int) ∧ (c.toNat : Int) < 97) ∨ 122 < (c.toNat : Int) := by omega
    clear h1 h2 h3
    rcases H4 with h1 | ⟨h1, h2⟩ | ⟨h1, h2⟩ | h1
    · have d1 : (c.toNat : Int) < 97 := by omega
      have d2 : (c.toNat : Int) < 65 := by omega
      go_wp2_with fail
      go_loopw [4] (fun iv wr => ∃ k : Nat, k ≤ 19 ∧ iv = .int .i64 k ∧ (∀ j (h : j < signsL.length), j < k → signsL[j] ≠ c) ∧ w = wr) (fun iv _ => 19 - (intOf iv).toNat)
      case atStart => exact ⟨0, by omega, rfl, fun j h h' => by omega, rfl⟩
      case round =>
        obtain ⟨k, hk, rfl, hn, rfl⟩ := hrel
        have HN := Lib.hid hn
        clear hn
        by_cases hlt : k < 19
        · have hb1 : (k : Int) < 19 := by omega
          have hkl : k < signsL.length := by rw [NS.out]; exact hlt
          have GE : ∀ h, (⟨#[33, 35, 36, 37, 38, 39, 42, 43, 45, 47, 61, 63, 94, 95, 123, 124, 125, 126, 96]⟩ : ByteArray)[k]'h = signsL[k] := fun h => rfl
          by_cases he : signsL[k] = c
          · have be : ((signsL[k].toNat : Int) == (c.toNat : Int)) = true := by rw [he]; simp
            have fin : r = true := by rw [R.out]; simpa using (List.mem_iff_getElem.2 ⟨k, hkl, he⟩)
            clear he
            subst fin
            go_wp2
            go_ret
            exact ⟨rfl, rfl⟩
          · have be : ((signsL[k].toNat : Int) == (c.toNat : Int)) = false := by
              cases q : ((signsL[k].toNat : Int) == (c.toNat : Int)) with
              | false => rfl
              | true => exfalso; apply he; apply UInt8.toNat_inj.1; have := eq_of_beq q; omega
            have NX : Hid (∀ j (h : j < signsL.length), j < k + 1 → signsL[j] ≠ c) := by
              intro j h hj
              by_cases q : j = k
              · subst q; exact he
              · exact HN.out j h (by omega)
            clear he
            go_wp2
            go_roundw
            case rel => exact ⟨k + 1, by omega, by go_num, NX.out, by simp⟩
            case measure => simp [intOf]; omega
        · obtain rfl : k = 19 := by omega
          have fin : r = false := by
            rw [R.out]
            cases q : signsL.contains c with
            | false => rfl
            | true =>
              obtain ⟨j, hj, e⟩ := List.mem_iff_getElem.1 (by simpa using q : c ∈ signsL)
              exact absurd e (HN.out j hj (by rw [← NS.out]; exact hj))
          subst fin
          go_wp2
          go_ret
          exact ⟨rfl, rfl⟩
    · have d1 : (c.toNat : Int) < 97 := by omega
      have d2 : 48 ≤ (c.toNat : Int) := by omega
      go_wp2_with fail
      go_loopw [4] (fun iv wr => ∃ k : Nat, k ≤ 19 ∧ iv = .int .i64 k ∧ (∀ j (h : j < signsL.length), j < k → signsL[j] ≠ c) ∧ w = wr) (fun iv _ => 19 - (intOf iv).toNat)
      case atStart => exact ⟨0, by omega, rfl, fun j h h' => by omega, rfl⟩
      case round =>
        obtain ⟨k, hk, rfl, hn, rfl⟩ := hrel
        have HN := Lib.hid hn
        clear hn
        by_cases hlt : k < 19
        · have hb1 : (k : Int) < 19 := by omega
          have hkl : k < signsL.length := by rw [NS.out]; exact hlt
          have GE : ∀ h, (⟨#[33, 35, 36, 37, 38, 39, 42, 43, 45, 47, 61, 63, 94, 95, 123, 124, 125, 126, 96]⟩ : ByteArray)[k]'h = signsL[k] := fun h => rfl
          by_cases he : signsL[k] = c
          · have be : ((signsL[k].toNat : Int) == (c.toNat : Int)) = true := by rw [he]; simp
            have fin : r = true := by rw [R.out]; simpa using (List.mem_iff_getElem.2 ⟨k, hkl, he⟩)
            clear he
            subst fin
            go_wp2
            go_ret
            exact ⟨rfl, rfl⟩
          · have be : ((signsL[k].toNat : Int) == (c.toNat : Int)) = false := by
              cases q : ((signsL[k].toNat : Int) == (c.toNat : Int)) with
              | false => rfl
              | true => exfalso; apply he; apply UInt8.toNat_inj.1; have := eq_of_beq q; omega
            have NX : Hid (∀ j (h : j < signsL.length), j < k + 1 → signsL[j] ≠ c) := by
              intro j h hj
              by_cases q : j = k
              · subst q; exact he
              · exact HN.out j h (by omega)
            clear he
            go_wp2
            go_roundw
            case rel => exact ⟨k + 1, by omega, by go_num, NX.out, by simp⟩
            case measure => simp [intOf]; omega
        · obtain rfl : k = 19 := by omega
          have fin : r = false := by
            rw [R.out]
            cases q : signsL.contains c with
            | false => rfl
            | true =>
              obtain ⟨j, hj, e⟩ := List.mem_iff_getElem.1 (by simpa using q : c ∈ signsL)
              exact absurd e (HN.out j hj (by rw [← NS.out]; exact hj))
          subst fin
          go_wp2
          go_ret
          exact ⟨rfl, rfl⟩
    · have d2 : 65 ≤ (c.toNat : Int) := by omega
      have d3 : 48 ≤ (c.toNat : Int) := by omega
      have d4 : 57 < (c.toNat : Int) := by omega
      go_wp2_with fail
      go_loopw [4] (fun iv wr => ∃ k : Nat, k ≤ 19 ∧ iv = .int .i64 k ∧ (∀ j (h : j < signsL.length), j < k → signsL[j] ≠ c) ∧ w = wr) (fun iv _ => 19 - (intOf iv).toNat)
      case atStart => exact ⟨0, by omega, rfl, fun j h h' => by omega, rfl⟩
      case round =>
        obtain ⟨k, hk, rfl, hn, rfl⟩ := hrel
        have HN := Lib.hid hn
        clear hn
        by_cases hlt : k < 19
        · have hb1 : (k : Int) < 19 := by omega
          have hkl : k < signsL.length := by rw [NS.out]; exact hlt
          have GE : ∀ h, (⟨#[33, 35, 36, 37, 38, 39, 42, 43, 45, 47, 61, 63, 94, 95, 123, 124, 125, 126, 96]⟩ : ByteArray)[k]'h = signsL[k] := fun h => rfl
          by_cases he : signsL[k] = c
          · have be : ((signsL[k].toNat : Int) == (c.toNat : Int)) = true := by rw [he]; simp
            have fin : r = true := by rw [R.out]; simpa using (List.mem_iff_getElem.2 ⟨k, hkl, he⟩)
            clear he
            subst fin
            go_wp2
            go_ret
            exact ⟨rfl, rfl⟩
          · have be : ((signsL[k].toNat : Int) == (c.toNat : Int)) = false := by
              cases q : ((signsL[k].toNat : Int) == (c.toNat : Int)) with
              | false => rfl
              | true => exfalso; apply he; apply UInt8.toNat_inj.1; have := eq_of_beq q; omega
            have NX : Hid (∀ j (h : j < signsL.length), j < k + 1 → signsL[j] ≠ c) := by
              intro j h hj
              by_cases q : j = k
              · subst q; exact he
              · exact HN.out j h (by omega)
            clear he
            go_wp2
            go_roundw
            case rel => exact ⟨k + 1, by omega, by go_num, NX.out, by simp⟩
            case measure => simp [intOf]; omega
        · obtain rfl : k = 19 := by omega
          have fin : r = false := by
            rw [R.out]
            cases q : signsL.contains c with
            | false => rfl
            | true =>
              obtain ⟨j, hj, e⟩ := List.mem_iff_getElem.1 (by simpa using q : c ∈ signsL)
              exact absurd e (HN.out j hj (by rw [← NS.out]; exact hj))
          subst fin
          go_wp2
          go_ret
          exact ⟨rfl, rfl⟩
    · have d1 : 97 ≤ (c.toNat : Int) := by omega
      have d2 : 65 ≤ (c.toNat : Int) := by omega
      have d3 : 48 ≤ (c.toNat : Int) := by omega
      have d4 : 57 < (c.toNat : Int) := by omega
      have d5 : 90 < (c.toNat : Int) := by omega
      go_wp2_with fail
      go_loopw [4] (fun iv wr => ∃ k : Nat, k ≤ 19 ∧ iv = .int .i64 k ∧ (∀ j (h : j < signsL.length), j < k → signsL[j] ≠ c) ∧ w = wr) (fun iv _ => 19 - (intOf iv).toNat)
      case atStart => exact ⟨0, by omega, rfl, fun j h h' => by omega, rfl⟩
      case round =>
        obtain ⟨k, hk, rfl, hn, rfl⟩ := hrel
        have HN := Lib.hid hn
        clear hn
        by_cases hlt : k < 19
        · have hb1 : (k : Int) < 19 := by omega
          have hkl : k < signsL.length := by rw [NS.out]; exact hlt
          have GE : ∀ h, (⟨#[33, 35, 36, 37, 38, 39, 42, 43, 45, 47, 61, 63, 94, 95, 123, 124, 125, 126, 96]⟩ : ByteArray)[k]'h = signsL[k] := fun h => rfl
          by_cases he : signsL[k] = c
          · have be : ((signsL[k].toNat : Int) == (c.toNat : Int)) = true := by rw [he]; simp
            have fin : r = true := by rw [R.out]; simpa using (List.mem_iff_getElem.2 ⟨k, hkl, he⟩)
            clear he
            subst fin
            go_wp2
            go_ret
            exact ⟨rfl, rfl⟩
          · have be : ((signsL[k].toNat : Int) == (c.toNat : Int)) = false := by
              cases q : ((signsL[k].toNat : Int) == (c.toNat : Int)) with
              | false => rfl
              | true => exfalso; apply he; apply UInt8.toNat_inj.1; have := eq_of_beq q; omega
            have NX : Hid (∀ j (h : j < signsL.length), j < k + 1 → signsL[j] ≠ c) := by
              intro j h hj
              by_cases q : j = k
              · subst q; exact he
              · exact HN.out j h (by omega)
            clear he
            go_wp2
            go_roundw
            case rel => exact ⟨k + 1, by omega, by go_num, NX.out, by simp⟩
            case measure => simp [intOf]; omega
        · obtain rfl : k = 19 := by omega
          have fin : r = false := by
            rw [R.out]
            cases q : signsL.contains c with
            | false => rfl
            | true =>
              obtain ⟨j, hj, e⟩ := List.mem_iff_getElem.1 (by simpa using q : c ∈ signsL)
              exact absurd e (HN.out j hj (by rw [← NS.out]; exact hj))
          subst fin
          go_wp2
          go_ret
          exact ⟨rfl, rfl⟩

theorem b_is (c d : UInt8) (n : Int) (hn : (d.toNat : Int) = n) : ((c.toNat : Int) == n) = (c == d) := by
  subst hn
  by_cases h : c = d
  · subst h; simp
  · have e : (c == d) = false := by simpa using h
    rw [e]
    cases q : ((c.toNat : Int) == (d.toNat : Int)) with
    | false => rfl
    | true => exfalso; apply h; apply UInt8.toNat_inj.1; have := eq_of_beq q; omega
theorem eachA_dot {s : List UInt8} {b : Bool} (h : ∀ k (h : k < s.length), k + 1 = s.length → s[k] = 46) (hn : s ≠ []) (he : eachRun stepA true s = (true, b)) : b = true := by
  have hl : s.length - 1 < s.length := by have := List.length_pos_iff.2 hn; omega
  have e : s = s.take (s.length - 1) ++ [s[s.length - 1]] := by
    rw [← List.take_succ_eq_append_getElem hl, List.take_of_length_le (by omega)]
  rw [e, eachRun_app] at he
  cases q : (eachRun stepA true (s.take (s.length - 1))).1
  · rw [q] at he; simp at he
  · rw [q] at he
    rw [h _ hl (by omega)] at he
    simp only [cond_true, eachRun] at he
    cases q2 : (eachRun stepA true (s.take (s.length - 1))).2 <;> rw [q2] at he <;> simp [stepA] at he
    exact he
theorem each_at {f : Bool → UInt8 → Bool × Bool} {st : Bool} {s : List UInt8} {k : Nat} (h : k < s.length) {b : Bool} (ha : eachRun f st (s.take k) = (true, b)) : eachRun f st (s.take (k + 1)) = f b s[k] := by
  rw [List.take_succ_eq_append_getElem h, eachRun_app, ha]
  simp only [cond_true, eachRun]
  cases e : (f b s[k]).1
  · simp; exact Prod.ext e.symm rfl
  · simp; exact Prod.ext e.symm rfl
theorem each_off {f : Bool → UInt8 → Bool × Bool} {st : Bool} {s : List UInt8} {k : Nat} {b : Bool} (ha : eachRun f st (s.take k) = (false, b)) : eachRun f st s = (false, b) := by
  conv => lhs; rw [← List.take_append_drop k s]
  rw [eachRun_app, ha]; rfl
set_option maxHeartbeats 2000000 in
theorem ratoms_any (s : List UInt8) (hs : s.length ≤ 1000000) (w : World) : Calls Tryd.prog 38 #[.string ⟨s.toArray⟩] w fun e w' => e = .returned (.bool (atomsB s)) ∧ w = w' := by
  have AB : Hid (atomsB s = ((eachRun stepA true s).1 && !(eachRun stepA true s).2)) := rfl
  generalize atomsB s = r at AB ⊢
  by_cases h0 : s.length = 0
  · obtain rfl : s = [] := List.eq_nil_of_length_eq_zero h0
    have fin : r = false := by rw [AB.out]; rfl
    subst fin
    clear AB
    go_enter Tryd.func38, Tryd.ntmps38
    go_wp2
    go_ret
    exact ⟨rfl, rfl⟩
  have p0 : 0 < s.length := by omega
  have hne : s.isEmpty = false := by cases s with
    | nil => simp at p0
    | cons _ _ => rfl
  have c0 := b_is (s[0]'p0) 46 46 rfl
  rcases Bool.eq_false_or_eq_true (s[0]'p0 == 46) with q0 | q0
  · have fin : r = false := by
      rw [AB.out]
      have h1 : eachRun stepA true (s.take 1) = stepA true s[0] := each_at p0 rfl
      have e0 : s[0] = 46 := by simpa using q0
      rw [e0] at h1
      rw [each_off (show eachRun stepA true (s.take 1) = (false, true) from h1)]; rfl
    subst fin
    rw [q0] at c0
    clear AB q0
    go_enter Tryd.func38, Tryd.ntmps38
    go_wp2
    go_ret
    exact ⟨rfl, rfl⟩
  rw [q0] at c0
  have pl : s.length - 1 < s.length := by omega
  have cl := b_is (s[s.length - 1]'pl) 46 46 rfl
  have i1 : (s.length : Int) - 1 < (s.length : Int) := by omega
  have i2 : 0 ≤ (s.length : Int) - 1 := by omega
  have i4 : 1 ≤ (s.length : Int) := by omega
  have i3 : ((s.length : Int) - 1).toNat = s.length - 1 := by omega
  rcases Bool.eq_false_or_eq_true (s[s.length - 1]'pl == 46) with ql | ql
  · have fin : r = false := by
      rw [AB.out]
      obtain ⟨a, b, hab⟩ : ∃ a b, eachRun stepA true s = (a, b) := ⟨_, _, rfl⟩
      rw [hab]
      cases a
      · rfl
      · rw [eachA_dot (fun k h hk => by have : k = s.length - 1 := by omega
                                        subst this; simpa using ql) (by rintro rfl; simp at p0) hab]; rfl
    subst fin
    rw [ql] at cl
    clear AB ql q0
    go_enter Tryd.func38, Tryd.ntmps38
    go_wp2
    go_ret
    exact ⟨rfl, rfl⟩
  rw [ql] at cl
  have QL := Lib.hid ql
  have Q0 := Lib.hid q0
  clear ql q0
  go_enter Tryd.func38, Tryd.ntmps38
  go_wp2_with fail
  clear cl c0
  go_loopw [3] (fun iv wr => ∃ (k : Nat) (b : Bool), k ≤ s.length ∧ iv = .int .i64 k ∧ eachRun stepA true (s.take k) = (true, b) ∧ (∀ j (h : j < s.length), j + 1 = k → b = (s[j] == 46)) ∧ w = wr) (fun iv _ => s.length - (intOf iv).toNat)
  case atStart => exact ⟨0, true, by omega, rfl, rfl, fun j h h' => by omega, rfl⟩
  case round =>
    obtain ⟨k, b, hk, rfl, ha, hb, rfl⟩ := hrel
    have HA := Lib.hid ha
    have HB := Lib.hid hb
    clear ha hb
    by_cases hlt : k < s.length
    · have hb1 : (k : Int) < (s.length : Int) := by omega
      have NX := Lib.hid (each_at hlt HA.out)
      have ck := b_is s[k] 46 46 rfl
      rcases Bool.eq_false_or_eq_true (s[k] == 46) with qk | qk
      · rw [qk] at ck
        have ck2 : ((s[k].toNat : Int) != 46) = false := by rw [bne, ck]; rfl
        have hk0 : 0 < k := by
          rcases Nat.eq_zero_or_pos k with h | h
          · subst h; have := Q0.out; rw [this] at qk; cases qk
          · exact h
        have pk : k - 1 < s.length := by omega
        have cp := b_is (s[k - 1]'pk) 46 46 rfl
        have j1 : (k : Int) - 1 < (s.length : Int) := by omega
        have j2 : 0 ≤ (k : Int) - 1 := by omega
        have j4 : 1 ≤ (k : Int) := by omega
        have j5 : (k : Int) < (s.length : Int) + 1 := by omega
        have j3 : ((k : Int) - 1).toNat = k - 1 := by omega
        have s1 : IntKind.i64.wrap ((k : Int) - 1) = (k : Int) - 1 := IntWalk.i64_in _ (by omega)
        have be := HB.out (k - 1) pk (by omega)
        have st : stepA b s[k] = (!b, true) := by unfold stepA; rw [qk]; simp
        have ST := Lib.hid st
        have QK := Lib.hid qk
        rw [← be] at cp
        clear st qk be
        cases b
        · go_wp2
          go_roundw
          case rel => exact ⟨k + 1, true, by omega, by go_num, NX.out.trans ST.out, fun j h hj => by
            have : j = k := by omega
            subst this; exact QK.out.symm, by simp⟩
          case measure => simp [intOf]; omega
        · have fin : r = false := by rw [AB.out, each_off (NX.out.trans ST.out)]; rfl
          subst fin
          go_wp2
          go_ret
          exact ⟨rfl, rfl⟩
      · rw [qk] at ck
        have ck2 : ((s[k].toNat : Int) != 46) = true := by rw [bne, ck]; rfl
        have st : stepA b s[k] = (signB s[k], false) := by unfold stepA signB; rw [qk]; simp
        have ST := Lib.hid st
        have QK := Lib.hid qk
        clear st qk
        go_wp2_with fail
        refine (sign_any s[k] _).mono ?_
        rintro e w1 ⟨rfl, rfl⟩
        rw [show stepA b s[k] = _ from ST.out] at NX
        clear ST
        obtain ⟨x, hx⟩ : ∃ x, x = signB s[k] := ⟨_, rfl⟩
        rw [← hx] at NX ⊢
        clear hx
        cases x
        · have fin : r = false := by rw [AB.out, each_off NX.out]; rfl
          subst fin
          go_wp2
          go_ret
          exact ⟨rfl, rfl⟩
        · go_wp2
          go_roundw
          case rel => exact ⟨k + 1, false, by omega, by go_num, NX.out, fun j h hj => by
            have : j = k := by omega
            subst this; exact QK.out.symm, by simp⟩
          case measure => simp [intOf]; omega
    · obtain rfl : k = s.length := by omega
      have fin : r = true := by
        rw [AB.out]
        have h1 := HA.out
        rw [List.take_length] at h1
        rw [h1, HB.out (s.length - 1) pl (by omega), QL.out]; rfl
      subst fin
      go_wp2
      go_ret
      exact ⟨rfl, rfl⟩
end Go.Proofs.YtlmifdkhdcbniaaDoor
