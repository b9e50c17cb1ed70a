/- merged: AdB AdC AdD AdE AdP (wip/merge.py) -/
import Derived.Test.YtehkdbgoeakgbaaGreatDoorCmBb
import Derived.Test.YtehkdbgoeakgbaaGreatDoorAdShelf
import Derived.Lib.IndexAny
import Derived.Test.YtehkdbgoeakgbaaGreatDoorCmBa
/- addr: letter, each, the closures of atoms and quoted. -/
namespace Go.Proofs.YtehkdbgoeakgbaaGreatDoor
set_option linter.all false
open Go.RowKit

theorem letter_any (c : UInt8) (w : World) : Calls Tryz.prog 126 #[.int .u8 (c.toNat : Int)] w fun e w' => e = .returned (.bool (letterB c)) ∧ w = w' := by
  obtain ⟨r, hr⟩ : ∃ r, r = letterB c := ⟨_, rfl⟩
  rw [← hr]
  have HR := Lib.hid hr
  clear hr
  by_cases h1 : 97 ≤ (c.toNat : Int)
  · by_cases h2 : (c.toNat : Int) ≤ 122
    · have e : r = true := by rw [HR.out]; simp [letterB]; omega
      subst e
      go_enter Tryz.func126, Tryz.ntmps126
      go_wp2
      go_ret
      exact ⟨rfl, rfl⟩
    · have h3 : ¬ (c.toNat : Int) ≤ 90 := by omega
      have h4 : ¬ (c.toNat : Int) ≤ 57 := by omega
      have h5 : (65 : Int) ≤ (c.toNat : Int) := by omega
      have h6 : (48 : Int) ≤ (c.toNat : Int) := by omega
      have e : r = false := by rw [HR.out]; simp [letterB]; omega
      subst e
      go_enter Tryz.func126, Tryz.ntmps126
      go_wp2
      go_ret
      exact ⟨rfl, rfl⟩
  · by_cases h2 : 65 ≤ (c.toNat : Int)
    · by_cases h3 : (c.toNat : Int) ≤ 90
      · have e : r = true := by rw [HR.out]; simp [letterB]; omega
        subst e
        go_enter Tryz.func126, Tryz.ntmps126
        go_wp2
        go_ret
        exact ⟨rfl, rfl⟩
      · have h4 : ¬ (c.toNat : Int) ≤ 57 := by omega
        have h6 : (48 : Int) ≤ (c.toNat : Int) := by omega
        have e : r = false := by rw [HR.out]; simp [letterB]; omega
        subst e
        go_enter Tryz.func126, Tryz.ntmps126
        go_wp2
        go_ret
        exact ⟨rfl, rfl⟩
    · by_cases h3 : 48 ≤ (c.toNat : Int)
      · by_cases h4 : (c.toNat : Int) ≤ 57
        · have e : r = true := by rw [HR.out]; simp [letterB]; omega
          subst e
          go_enter Tryz.func126, Tryz.ntmps126
          go_wp2
          go_ret
          exact ⟨rfl, rfl⟩
        · have e : r = false := by rw [HR.out]; simp [letterB]; omega
          subst e
          go_enter Tryz.func126, Tryz.ntmps126
          go_wp2
          go_ret
          exact ⟨rfl, rfl⟩
      · have e : r = false := by rw [HR.out]; simp [letterB]; omega
        subst e
        go_enter Tryz.func126, Tryz.ntmps126
        go_wp2
        go_ret
        exact ⟨rfl, rfl⟩

theorem eachRun_app (f : Bool → UInt8 → Bool × Bool) : ∀ (st : Bool) (a b : List UInt8), eachRun f st (a ++ b) = bif (eachRun f st a).1 then eachRun f (eachRun f st a).2 b else (false, (eachRun f st a).2)
  | st, [], b => by simp [eachRun]
  | st, c :: a, b => by
    simp only [List.cons_append, eachRun]
    cases (f st c).1
    · simp
    · simpa using eachRun_app f (f st c).2 a b
/-- a test of bytes, handed over as a function that keeps a bool in what it has caught -/
def Tests (cf : Nat) (lb : Array Value) (it : Bool → List Piece) (f : Bool → UInt8 → Bool × Bool) : Prop :=
  ∀ (w0 w : World) (L : List Piece) (st : Bool) (c : UInt8), Own w0 w (it st ++ L) →
    Calls Tryz.prog cf (#[.int .u8 (c.toNat : Int)] ++ lb) w fun e w' => e = .returned (.bool (f st c).1) ∧ Own w0 w' (it (f st c).2 ++ L)
set_option maxHeartbeats 1000000 in
theorem each_own {cf : Nat} {lb : Array Value} {it : Bool → List Piece} {f : Bool → UInt8 → Bool × Bool} (hf : Tests cf lb it f) (eg : ∀ args w, (callFunc cf args).run Tryz.prog w = .ok (.enter cf args) w)
    {w0 w : World} {L : List Piece} (st : Bool) (s : List UInt8) (hs : s.length ≤ 140737488351232) (O : Own w0 w (it st ++ L)) :
    Calls Tryz.prog 124 #[.string ⟨s.toArray⟩, .func (.func cf) #[] lb] w fun e w' => e = .returned (.bool (eachRun f st s).1) ∧ Own w0 w' (it (eachRun f st s).2 ++ L) := by
  obtain ⟨res, hres⟩ : ∃ r, r = eachRun f st s := ⟨_, rfl⟩
  rw [← hres]
  have HR := Lib.hid hres
  clear hres
  go_enter Tryz.func124, Tryz.ntmps124
  go_wp2
  go_loopw [8] (fun i wr => ∃ (k : Nat) (st1 : Bool), k ≤ s.length ∧ i = .int .i64 k ∧ eachRun f st (s.take k) = (true, st1) ∧ Own w0 wr (it st1 ++ L)) (fun i _ => s.length - (intOf i).toNat)
  case atStart => exact ⟨0, st, by omega, rfl, rfl, O⟩
  case round =>
    clear O
    obtain ⟨k, st1, hk, rfl, ha, O⟩ := hrel
    have HA := Lib.hid ha
    clear ha
    by_cases hlt : k < s.length
    · have hb1 : (k : Int) < (s.length : Int) := by omega
      have TK := Lib.hid (List.take_succ_eq_append_getElem hlt)
      go_wp2_with fail
      refine (hf w0 _ L st1 s[k] O).mono ?_
      clear O
      rintro e w1 ⟨rfl, O⟩
      have NX : Hid (eachRun f st (s.take (k + 1)) = ((f st1 s[k]).1, (f st1 s[k]).2)) := by
        unfold Hid
        rw [TK.out, eachRun_app, HA.out]
        cases h : (f st1 s[k]).1 <;> simp [eachRun, h]
      obtain ⟨b, hb⟩ : ∃ b, b = (f st1 s[k]).1 := ⟨_, rfl⟩
      obtain ⟨st2, hs2⟩ : ∃ b, b = (f st1 s[k]).2 := ⟨_, rfl⟩
      rw [← hb, ← hs2] at NX
      rw [← hs2] at O
      rw [← hb]
      have HB := Lib.hid hb
      clear hb hs2
      cases b
      · go_wp2
        go_ret
        have fin : res = (false, st2) := by
          rw [HR.out]
          conv => lhs; rw [← List.take_append_drop (k + 1) s]
          rw [eachRun_app, NX.out]
          rfl
        rw [fin]
        exact ⟨rfl, O⟩
      · go_wp2
        go_roundw
        case rel => exact ⟨k + 1, st2, by omega, by go_num, NX.out, O⟩
        case measure => simp [intOf]; omega
    · obtain rfl : k = s.length := by omega
      have fin : res = (true, st1) := by rw [HR.out, ← HA.out, List.take_length]
      go_wp2
      go_ret
      rw [fin]
      exact ⟨rfl, O⟩

theorem letter_at (c : UInt8) (w : World) : Calls Tryz.prog 126 #[.int .u8 (c.toNat : Int)] w fun e w' => e = .returned (.bool (letterB c)) ∧ w' = w :=
  (letter_any c w).mono (fun _ _ ⟨h1, h2⟩ => ⟨h1, h2.symm⟩)
def itB (B : Nat) (st : Bool) : List Piece := [box B #[.bool st] 4]
theorem sign_in (c : UInt8) : Hid (signsL.contains c = decide (0 ≤ Lib.indexByte signsL c)) := Lib.contains_iff_indexByte _ _
set_option maxHeartbeats 1000000 in
theorem atoms1_tests (B : Nat) : Tests 125 #[.pointer (some ⟨B, 0, none⟩)] (itB B) stepA := by
  intro w0 w L st c O
  change Own w0 w (box B #[.bool st] 4 :: L) at O
  have c0 : w.cell? ⟨B, 0, none⟩ = some (.bool st) := O.cell 0
  have f0 : w.frozen? ⟨B, 0, none⟩ = false := O.free 0
  have O2 := fun b => O.set 0 (.bool b)
  have c1 : ∀ b, (w.setCell ⟨B, 0, none⟩ (.bool b)).cell? ⟨B, 0, none⟩ = some (.bool b) := fun b => (O2 b).cell 0
  by_cases h : (c.toNat : Int) = 46
  · have hb : ((c.toNat : Int) == 46) = true := by simp [h]
    have hc : c = 46 := by apply UInt8.toNat_inj.1; simpa using (show c.toNat = 46 by omega)
    have HS : Hid (stepA st c = (!st, true)) := by unfold Hid; rw [hc]; cases st <;> rfl
    clear h hc
    go_enter Tryz.func125, Tryz.ntmps125
    cases st <;> (go_wp2; go_ret; rw [HS.out]; exact ⟨rfl, O2 true⟩)
  · have hb : ((c.toNat : Int) == 46) = false := by simp [h]
    have hc : (c == 46) = false := by
      cases e : c == 46 with
      | false => rfl
      | true => exfalso; apply h; rw [beq_iff_eq.1 e]; rfl
    have HS : Hid (stepA st c = (letterB c || signsL.contains c, false)) := by unfold Hid stepA; rw [hc]; simp
    clear h hc
    obtain ⟨a, ha⟩ : ∃ a, a = letterB c := ⟨_, rfl⟩
    have LA : ∀ w1, Calls Tryz.prog 126 #[.int .u8 (c.toNat : Int)] w1 fun e w' => e = .returned (.bool a) ∧ w' = w1 := by rw [ha]; exact letter_at c
    have SG := sign_in c
    rw [← ha] at HS
    clear ha
    go_enter Tryz.func125, Tryz.ntmps125
    go_wp2_with fail
    refine (LA _).mono ?_
    rintro e w1 ⟨rfl, rfl⟩
    cases a
    · go_wp2_with fail
      refine (Tryz.strings_IndexByte ⟨signsL.toArray⟩ (c.toNat : Int) _).mono ?_
      rintro e w1 ⟨rfl, rfl⟩
      rw [show ((c.toNat : Int).toNat.toUInt8) = c from by simp]
      rw [SG.out] at HS
      change Hid (stepA st c = (false || decide (0 ≤ Lib.indexByte (⟨signsL.toArray⟩ : ByteArray).data.toList c), false)) at HS
      generalize Lib.indexByte (⟨signsL.toArray⟩ : ByteArray).data.toList c = n at HS ⊢
      by_cases hn : 0 ≤ n
      · rw [decide_eq_true hn] at HS
        go_wp2
        go_ret
        rw [HS.out]; exact ⟨rfl, O2 false⟩
      · rw [decide_eq_false hn] at HS
        have hd : decide (0 ≤ n) = false := decide_eq_false hn
        go_wp2
        go_ret
        rw [HS.out]; exact ⟨rfl, O2 false⟩
    · go_wp2
      go_ret
      rw [HS.out]; exact ⟨rfl, O2 false⟩

theorem atoms_own {w0 w : World} {L : List Piece} (O : Own w0 w L) (s : List UInt8) (hs : s.length ≤ 140737488351232) :
    Calls Tryz.prog 122 #[.string ⟨s.toArray⟩] w fun e w' => e = .returned (.bool (atomsB s)) ∧ Own w0 w' L := by
  have O1 := O.newBox #[.bool true] 4
  obtain ⟨B, hB⟩ : ∃ B, B = w.heap.size := ⟨_, rfl⟩
  rw [← hB] at O1
  have HA : Hid (atomsB s = ((eachRun stepA true s).1 && !(eachRun stepA true s).2)) := rfl
  generalize atomsB s = res at HA ⊢
  go_enter Tryz.func122, Tryz.ntmps122
  go_wp2_with fail
  rw [← hB]
  refine (each_own (atoms1_tests B) (enters_of Tryz.func125 (by kernel_rfl) rfl) true s hs O1).mono ?_
  clear O O1
  rintro e w1 ⟨rfl, O⟩
  generalize eachRun stepA true s = r at HA O ⊢
  obtain ⟨a, st⟩ := r
  have c0 : w1.cell? ⟨w.heap.size, 0, none⟩ = some (.bool st) := by rw [← hB]; exact Own.cell O 0
  have HA2 : Hid (res = (a && !st)) := HA.out
  cases a
  · go_wp2
    go_ret
    rw [HA2.out]; exact ⟨rfl, O.drop⟩
  · cases st <;> (go_wp2; go_ret; rw [HA2.out]; exact ⟨rfl, O.drop⟩)

set_option maxHeartbeats 1000000 in
theorem quoted1_tests (B : Nat) : Tests 128 #[.pointer (some ⟨B, 0, none⟩)] (itB B) stepQ := by
  intro w0 w L st c O
  change Own w0 w (box B #[.bool st] 4 :: L) at O
  have c0 : w.cell? ⟨B, 0, none⟩ = some (.bool st) := O.cell 0
  have f0 : w.frozen? ⟨B, 0, none⟩ = false := O.free 0
  have O2 := fun b => O.set 0 (.bool b)
  have h256 : (c.toNat : Int) < 256 := by have := c.toNat_lt; omega
  by_cases h : (c.toNat : Int) = 92
  · have hc : c = 92 := by apply UInt8.toNat_inj.1; simpa using (show c.toNat = 92 by omega)
    have HS : Hid (stepQ st c = (true, !st)) := by unfold Hid; rw [hc]; cases st <;> rfl
    have hb : ((c.toNat : Int) == 92) = true := by simp [h]
    have hb2 : ((c.toNat : Int) != 34) = true := by simp [h]
    have h3 : 32 ≤ (c.toNat : Int) := by omega
    have h4 : (c.toNat : Int) ≤ 126 := by omega
    clear h hc
    go_enter Tryz.func128, Tryz.ntmps128
    cases st <;> (go_wp2; go_ret; rw [HS.out]; exact ⟨rfl, O2 _⟩)
  · have hb : ((c.toNat : Int) == 92) = false := by simp [h]
    have hc : (c == 92) = false := by
      cases e : c == 92 with
      | false => rfl
      | true => exfalso; apply h; rw [beq_iff_eq.1 e]; rfl
    have h34 : (c == 34) = ((c.toNat : Int) == 34) := by
      by_cases e : (c.toNat : Int) = 34
      · have hc : c = 34 := by apply UInt8.toNat_inj.1; simpa using (show c.toNat = 34 by omega)
        subst hc; rfl
      · have e1 : ((c.toNat : Int) == 34) = false := by simp [e]
        rw [e1]
        cases q : c == 34 with
        | false => rfl
        | true => exfalso; apply e; rw [beq_iff_eq.1 q]; rfl
    have HS : Hid (stepQ st c = (decide (32 ≤ c.toNat ∧ c.toNat ≤ 126) && (st || !((c.toNat : Int) == 34)), false)) := by unfold Hid stepQ; rw [hc, h34]; simp
    clear h hc h34
    by_cases h1 : 32 ≤ (c.toNat : Int)
    · by_cases h2 : (c.toNat : Int) ≤ 126
      · rw [decide_eq_true (show 32 ≤ c.toNat ∧ c.toNat ≤ 126 by omega)] at HS
        obtain ⟨q, hq⟩ : ∃ q, q = ((c.toNat : Int) == 34) := ⟨_, rfl⟩
        rw [← hq] at HS
        have hq1 : ((c.toNat : Int) == 34) = q := hq.symm
        have hq2 : ((c.toNat : Int) != 34) = !q := by rw [hq]; rfl
        clear hq
        go_enter Tryz.func128, Tryz.ntmps128
        cases st <;> cases q <;> (go_wp2; go_ret; rw [HS.out]; exact ⟨rfl, O2 false⟩)
      · rw [decide_eq_false (show ¬ (32 ≤ c.toNat ∧ c.toNat ≤ 126) by omega)] at HS
        go_enter Tryz.func128, Tryz.ntmps128
        cases st <;> (go_wp2; go_ret; rw [HS.out]; exact ⟨rfl, O2 false⟩)
    · rw [decide_eq_false (show ¬ (32 ≤ c.toNat ∧ c.toNat ≤ 126) by omega)] at HS
      go_enter Tryz.func128, Tryz.ntmps128
      cases st <;> (go_wp2; go_ret; rw [HS.out]; exact ⟨rfl, O2 false⟩)
end Go.Proofs.YtehkdbgoeakgbaaGreatDoor
/- addr: quoted; the kinds of local parts. -/
namespace Go.Proofs.YtehkdbgoeakgbaaGreatDoor
set_option linter.all false
open Go.RowKit

theorem has_pre (s : List UInt8) (p : UInt8) : Lib.hasPrefix s [p] = (cutPre p s).2 := by
  cases s with
  | nil => rfl
  | cons c r =>
    simp only [Lib.hasPrefix, cutPre, List.isPrefixOf]
    by_cases h : c = p
    · subst h; simp
    · simp [h, Ne.symm h]
theorem trim_pre (s : List UInt8) (p : UInt8) : Lib.trimPrefix s [p] = (cutPre p s).1 := by
  unfold Lib.trimPrefix
  rw [has_pre]
  cases s with
  | nil => rfl
  | cons c r => by_cases h : c = p <;> simp [cutPre, h]
theorem has_suf (s : List UInt8) (p : UInt8) : Lib.hasSuffix s [p] = (s.getLast? == some p) := by
  have h : Lib.hasSuffix s [p] = ([p].reverse.isPrefixOf s.reverse) := rfl
  rw [h, ← List.head?_reverse]
  cases e : s.reverse with
  | nil => rfl
  | cons c r =>
    simp only [List.reverse_cons, List.reverse_nil, List.nil_append, List.isPrefixOf, List.head?_cons]
    by_cases h : c = p
    · subst h; simp
    · simp [h, Ne.symm h]; exact BEq.comm
theorem cutSuf_snd (s : List UInt8) (p : UInt8) : (cutSuf p s).2 = (s.getLast? == some p) := by
  unfold cutSuf
  by_cases h : s.getLast? = some p
  · rw [if_pos h, h]; simp
  · rw [if_neg h]; simp [h]
theorem trim_suf (s : List UInt8) (p : UInt8) : Lib.trimSuffix s [p] = (cutSuf p s).1 := by
  unfold Lib.trimSuffix cutSuf
  rw [has_suf]
  by_cases h : s.getLast? = some p
  · rw [if_pos h, h]; simp [List.dropLast_eq_take]
  · rw [if_neg h]; simp [h]
theorem lastAt_zero : ∀ {s : List UInt8}, lastAt s = 0 → ∀ j (h : j < s.length), s[j] ≠ 64
  | [], _, j, h => by simp at h
  | c :: r, h, j, hj => by
    unfold lastAt at h
    cases e : Nat.beq (lastAt r) 0
    · rw [e] at h; simp at h
    · rw [e] at h
      simp only [cond_true] at h
      have hr := lastAt_zero (Nat.eq_of_beq_eq_true e)
      cases j with
      | zero => intro hc; rw [List.getElem_cons_zero] at hc; rw [if_pos hc] at h; simp at h
      | succ j => simpa using hr j (by simpa using hj)
theorem lastAt_succ : ∀ {s : List UInt8} {i : Nat}, lastAt s = i + 1 → ∃ h : i < s.length, s[i] = 64 ∧ ∀ j (hj : j < s.length), i < j → s[j] ≠ 64
  | [], i, h => by simp [lastAt] at h
  | c :: r, i, h => by
    unfold lastAt at h
    cases e : Nat.beq (lastAt r) 0
    · rw [e] at h
      simp only [cond_false] at h
      have hi : lastAt r = i := by omega
      have hp : 0 < lastAt r := by
        rcases Nat.eq_zero_or_pos (lastAt r) with h0 | h0
        · rw [h0] at e; simp at e
        · exact h0
      obtain ⟨i', rfl⟩ : ∃ i', i = i' + 1 := ⟨i - 1, by omega⟩
      obtain ⟨h1, h2, h3⟩ := lastAt_succ hi
      refine ⟨by simp; omega, by simpa using h2, fun j hj hlt => ?_⟩
      cases j with
      | zero => omega
      | succ j => simpa using h3 j (by simpa using hj) (by omega)
    · rw [e] at h
      simp only [cond_true] at h
      have hr := lastAt_zero (Nat.eq_of_beq_eq_true e)
      by_cases hc : c = 64
      · rw [if_pos hc] at h
        obtain rfl : i = 0 := by omega
        refine ⟨by simp, by simpa using hc, fun j hj hlt => ?_⟩
        cases j with
        | zero => omega
        | succ j => simpa using hr j (by simpa using hj)
      · rw [if_neg hc] at h; omega
theorem last_at (s : List UInt8) : Lib.lastIndexByte ⟨s.toArray⟩ 64 = (lastAt s : Int) - 1 := by
  have hz : (⟨s.toArray⟩ : ByteArray).size = s.length := by simp [ByteArray.size]
  have hg : ∀ j (h : j < s.length), ((⟨s.toArray⟩ : ByteArray).data[j]!) = s[j] := fun j h => by simp [h]
  unfold Lib.lastIndexByte
  have tn : ∀ c : UInt8, (c.toNat : Int) = 64 → c = 64 := fun c h => by apply UInt8.toNat_inj.1; simpa using (show c.toNat = 64 by omega)
  rcases Lib.lastIdx_spec ⟨s.toArray⟩ 64 (⟨s.toArray⟩ : ByteArray).size with ⟨h1, h2⟩ | ⟨i, h1, h2, h3, h4⟩
  · rw [h1]
    cases e : lastAt s with
    | zero => rfl
    | succ i =>
      obtain ⟨q1, q2, q3⟩ := lastAt_succ e
      exact absurd (by rw [hg i q1, q2]; rfl) (h2 i (by rw [hz]; exact q1))
  · rw [h2]
    rw [hz] at h1 h4
    rw [hg i h1] at h3
    cases e : lastAt s with
    | zero => exact absurd (tn _ h3) (lastAt_zero e i h1)
    | succ k =>
      obtain ⟨q1, q2, q3⟩ := lastAt_succ e
      have : i = k := by
        rcases Nat.lt_trichotomy i k with h | h | h
        · exact absurd (by rw [hg k q1, q2]; rfl) (h4 k h q1)
        · exact h
        · exact absurd (tn _ h3) (q3 i h1 h)
      subst this; omega

theorem cutPre_le (p : UInt8) (s : List UInt8) : (cutPre p s).1.length ≤ s.length := by
  cases s with
  | nil => simp [cutPre]
  | cons c r => by_cases h : c = p <;> simp [cutPre, h]
theorem cutSuf_le (p : UInt8) (s : List UInt8) : (cutSuf p s).1.length ≤ s.length := by
  unfold cutSuf; split <;> simp
theorem cutPre_at (s : List UInt8) (w : World) (p : UInt8) : Calls Tryz.prog 58 #[.string ⟨s.toArray⟩, .string ⟨[p].toArray⟩] w fun e w' => e = .returned (.tuple #[.string ⟨(cutPre p s).1.toArray⟩, .bool (cutPre p s).2]) ∧ w = w' := by
  have h := Tryz.strings_CutPrefix ⟨s.toArray⟩ ⟨[p].toArray⟩ w
  simp only [trim_pre, has_pre] at h
  exact h.mono (fun _ _ ⟨a, b⟩ => ⟨a, b.symm⟩)
theorem cutSuf_at (s : List UInt8) (w : World) (p : UInt8) (hs : s.length ≤ 140737488351232) : Calls Tryz.prog 76 #[.string ⟨s.toArray⟩, .string ⟨[p].toArray⟩] w fun e w' => e = .returned (.tuple #[.string ⟨(cutSuf p s).1.toArray⟩, .bool (cutSuf p s).2]) ∧ w = w' := by
  have h := Tryz.strings_CutSuffix ⟨s.toArray⟩ ⟨[p].toArray⟩ w (by simp [ByteArray.size]; omega)
  simp only [trim_suf, has_suf] at h
  rw [cutSuf_snd]
  exact h.mono (fun _ _ ⟨a, b⟩ => ⟨a, b.symm⟩)
set_option maxHeartbeats 1000000 in
theorem quoted_own {w0 w : World} {L : List Piece} (O : Own w0 w L) (s : List UInt8) (hs : s.length ≤ 140737488351232) :
    Calls Tryz.prog 123 #[.string ⟨s.toArray⟩] w fun e w' => e = .returned (.bool (quotedB s)) ∧ Own w0 w' L := by
  have O1 := O.newBox #[.bool false] 4
  obtain ⟨B, hB⟩ : ∃ B, B = w.heap.size := ⟨_, rfl⟩
  rw [← hB] at O1
  have HA : Hid (quotedB s = ((cutPre 34 s).2 && ((cutSuf 34 (cutPre 34 s).1).2 && ((eachRun stepQ false (cutSuf 34 (cutPre 34 s).1).1).1 && !(eachRun stepQ false (cutSuf 34 (cutPre 34 s).1).1).2)))) := rfl
  generalize quotedB s = res at HA ⊢
  have l1 := cutPre_le 34 s
  have l2 := cutSuf_le 34 (cutPre 34 s).1
  have C1 := cutPre_at s w 34
  have C2 := cutSuf_at (cutPre 34 s).1 w 34 (by omega)
  generalize cutPre 34 s = p1 at HA l1 l2 C1 C2
  obtain ⟨t1, b1⟩ := p1
  generalize cutSuf 34 t1 = p2 at HA l2 C2
  obtain ⟨t2, b2⟩ := p2
  simp only at HA l1 l2 C1 C2
  have hl : t2.length ≤ 140737488351232 := by omega
  clear l1 l2
  go_enter Tryz.func123, Tryz.ntmps123
  go_wp2_with fail
  refine C1.mono ?_
  rintro e w1 ⟨rfl, rfl⟩
  go_wp2_with fail
  refine C2.mono ?_
  rintro e w1 ⟨rfl, rfl⟩
  go_wp2_with fail
  rw [← hB]
  refine (each_own (quoted1_tests B) (enters_of Tryz.func128 (by kernel_rfl) rfl) false t2 hl O1).mono ?_
  clear O O1 C1 C2
  rintro e w1 ⟨rfl, O⟩
  generalize eachRun stepQ false t2 = r at HA O ⊢
  obtain ⟨a, st⟩ := r
  have c0 : w1.cell? ⟨w.heap.size, 0, none⟩ = some (.bool st) := by rw [← hB]; exact Own.cell O 0
  have HA2 : Hid (res = (b1 && (b2 && (a && !st)))) := HA.out
  clear HA
  cases b1
  · go_wp2
    go_ret
    rw [HA2.out]; exact ⟨rfl, O.drop⟩
  cases b2
  · go_wp2
    go_ret
    rw [HA2.out]; exact ⟨rfl, O.drop⟩
  cases a
  · go_wp2
    go_ret
    rw [HA2.out]; exact ⟨rfl, O.drop⟩
  · cases st <;> (go_wp2; go_ret; rw [HA2.out]; exact ⟨rfl, O.drop⟩)

/-- the variable kinds holds what its initialiser lays -/
def Kinds (w : World) : Prop := w.cell? ⟨0, 0, none⟩ = some (.func (.func 122) #[] #[]) ∧ w.cell? ⟨0, 1, none⟩ = some (.func (.func 123) #[] #[])
theorem Kinds.own {w0 w : World} {L : List Piece} (h : Kinds w0) (O : Own w0 w L) : Kinds w := ⟨O.chg.cell h.1 (by simp), O.chg.cell h.2 (by simp)⟩
theorem is_own {w0 w : World} {L : List Piece} {S T : Nat} {s : List UInt8} {a : Nat} (O : Own w0 w (box S #[.string ⟨s.toArray⟩] 9 :: box T #[.int .i64 a] 3 :: L)) (ha : a ≤ s.length) (hs : s.length ≤ 140737488351232) (q : Bool) :
    Calls Tryz.prog 69 #[.func (.func (bif q then 123 else 122)) #[] #[], .pointer (some ⟨S, 0, none⟩), .pointer (some ⟨T, 0, none⟩)] w fun e w' => e = .returned (.bool (bif q then quotedB (s.take a) else atomsB (s.take a))) ∧ Own w0 w' (box S #[.string ⟨s.toArray⟩] 9 :: box T #[.int .i64 a] 3 :: L) := by
  have c0 : w.cell? ⟨S, 0, none⟩ = some (.string ⟨s.toArray⟩) := O.cell 0
  have c1 : w.cell? ⟨T, 0, none⟩ = some (.int .i64 a) := (O.pick 1).cell 0
  have hl : (s.take a).length ≤ 140737488351232 := by simp; omega
  have sub := run_subTo s a ha
  generalize s.take a = u at hl sub ⊢
  cases q
  · dsimp only [cond]
    go_enter Tryz.func69, Tryz.ntmps69
    go_wp2_with fail
    refine (atoms_own O u hl).mono ?_
    clear O
    rintro e w1 ⟨rfl, O⟩
    go_wp2
    go_ret
    exact ⟨rfl, O⟩
  · dsimp only [cond]
    go_enter Tryz.func69, Tryz.ntmps69
    go_wp2_with fail
    refine (quoted_own O u hl).mono ?_
    clear O
    rintro e w1 ⟨rfl, O⟩
    go_wp2
    go_ret
    exact ⟨rfl, O⟩
end Go.Proofs.YtehkdbgoeakgbaaGreatDoor
/- addr: slices.ContainsFunc over the kinds; Parse. -/
namespace Go.Proofs.YtehkdbgoeakgbaaGreatDoor
set_option linter.all false
open Go.RowKit

set_option maxHeartbeats 1000000 in
theorem indexKinds_own {w0 w : World} {L : List Piece} {S T : Nat} {s : List UInt8} {a : Nat} (K : Kinds w0) (O : Own w0 w (box S #[.string ⟨s.toArray⟩] 9 :: box T #[.int .i64 a] 3 :: L)) (ha : a ≤ s.length) (hs : s.length ≤ 140737488351232) :
    Calls Tryz.prog 81 #[.slice (some ⟨0, 0, none⟩) 2 2, .func (.func 69) #[] #[.pointer (some ⟨S, 0, none⟩), .pointer (some ⟨T, 0, none⟩)]] w
      fun e w' => e = .returned (.int .i64 (bif atomsB (s.take a) then 0 else bif quotedB (s.take a) then 1 else -1)) ∧ Own w0 w' (box S #[.string ⟨s.toArray⟩] 9 :: box T #[.int .i64 a] 3 :: L) := by
  have IS0 := fun w (O : Own w0 w (box S #[.string ⟨s.toArray⟩] 9 :: box T #[.int .i64 a] 3 :: L)) => is_own O ha hs false
  have IS1 := fun w (O : Own w0 w (box S #[.string ⟨s.toArray⟩] 9 :: box T #[.int .i64 a] 3 :: L)) => is_own O ha hs true
  dsimp only [cond_false, cond_true] at IS0 IS1
  generalize atomsB (s.take a) = x at IS0 ⊢
  generalize quotedB (s.take a) = y at IS1 ⊢
  clear ha hs
  go_enter Tryz.func81, Tryz.ntmps81
  go_wp2
  go_loopw [8] (fun i wr => ∃ k : Nat, k ≤ 2 ∧ i = .int .i64 k ∧ (0 < k → x = false) ∧ (1 < k → y = false) ∧ Own w0 wr (box S #[.string ⟨s.toArray⟩] 9 :: box T #[.int .i64 a] 3 :: L)) (fun i _ => 2 - (intOf i).toNat)
  case atStart => exact ⟨0, by omega, rfl, by omega, by omega, O⟩
  case round =>
    clear O
    obtain ⟨k, hk, rfl, h0, h1, O⟩ := hrel
    obtain ⟨K0, K1⟩ := K.own O
    have H0 := Lib.hid h0
    have H1 := Lib.hid h1
    clear h0 h1
    rcases (show k = 0 ∨ k = 1 ∨ k = 2 by omega) with rfl | rfl | rfl
    · go_wp2_with fail
      refine (IS0 _ O).mono ?_
      clear O
      rintro e w1 ⟨rfl, O⟩
      cases x
      · go_wp2
        go_roundw
        case rel => exact ⟨1, by omega, by go_num, by simp, by simp, O⟩
        case measure => simp [intOf]
      · go_wp2
        go_ret
        exact ⟨rfl, O⟩
    · go_wp2_with fail
      refine (IS1 _ O).mono ?_
      clear O
      rintro e w1 ⟨rfl, O⟩
      obtain rfl := H0.out (by omega)
      cases y
      · go_wp2
        go_roundw
        case rel => exact ⟨2, by omega, by go_num, by simp, by simp, O⟩
        case measure => simp [intOf]
      · go_wp2
        go_ret
        exact ⟨rfl, O⟩
    · obtain rfl := H0.out (by omega)
      obtain rfl := H1.out (by omega)
      go_wp2
      go_ret
      exact ⟨rfl, O⟩
theorem containsKinds_own {w0 w : World} {L : List Piece} {S T : Nat} {s : List UInt8} {a : Nat} (K : Kinds w0) (O : Own w0 w (box S #[.string ⟨s.toArray⟩] 9 :: box T #[.int .i64 a] 3 :: L)) (ha : a ≤ s.length) (hs : s.length ≤ 140737488351232) :
    Calls Tryz.prog 68 #[.slice (some ⟨0, 0, none⟩) 2 2, .func (.func 69) #[] #[.pointer (some ⟨S, 0, none⟩), .pointer (some ⟨T, 0, none⟩)]] w
      fun e w' => e = .returned (.bool (atomsB (s.take a) || quotedB (s.take a))) ∧ Own w0 w' (box S #[.string ⟨s.toArray⟩] 9 :: box T #[.int .i64 a] 3 :: L) := by
  have IX := indexKinds_own K O ha hs
  generalize atomsB (s.take a) = x at IX ⊢
  generalize quotedB (s.take a) = y at IX ⊢
  go_enter Tryz.func68, Tryz.ntmps68
  go_wp2_with fail
  refine IX.mono ?_
  clear O IX
  rintro e w1 ⟨rfl, O⟩
  cases x <;> cases y <;> (dsimp only [cond_false, cond_true]; go_wp2; go_ret; exact ⟨rfl, O⟩)
theorem parseB_loc {s : List UInt8} (h : locOk s = false) : parseB s = false := by unfold parseB; rw [h]; rfl
theorem parseB_may {s : List UInt8} (h : locOk s = true) : parseB s = may (folded (s.drop (lastAt s))) := by unfold parseB; rw [h]; rfl
set_option maxHeartbeats 1000000 in
theorem parse_own {w0 w : World} {L : List Piece} (K : Kinds w0) (O : Own w0 w L) (s : List UInt8) (hs : s.length ≤ 100000000) :
    Calls Tryz.prog 50 #[.string ⟨s.toArray⟩] w fun e w' => e = .returned (parseV s) ∧ Own w0 w' L := by
  have LA := Tryz.strings_LastIndexByte ⟨s.toArray⟩ 64 (by simp [ByteArray.size]; omega)
  rw [last_at] at LA
  have HSF := Tryz.strings_HasSuffix ⟨s.toArray⟩ ⟨#[46]⟩
  have hle := lastAt_le s
  obtain ⟨n, hn⟩ : ∃ n, n = lastAt s := ⟨_, rfl⟩
  have PV : Hid (locOk s = (decide (2 ≤ n ∧ n ≤ 65) && (!(s.getLast? == some 46) && (atomsB (s.take (n - 1)) || quotedB (s.take (n - 1)))))) := by rw [hn]; rfl
  rw [← hn] at LA hle
  have HN := Lib.hid hn
  clear hn
  by_cases h1 : n < 2
  · have PF := Lib.hid (parseV_false (parseB_loc (PV.out.trans (by rw [decide_eq_false (by omega)]; rfl))))
    have hc : (n : Int) - 1 < 1 := by omega
    clear PV HN hle
    have O2 := (O.newBox #[.string ⟨s.toArray⟩] 9).alloc (.cells #[.int .i64 ((n : Int) - 1)] 3)
    go_enter Tryz.func50, Tryz.ntmps50
    go_wp2_with fail
    refine (LA _).mono ?_
    clear LA
    rintro e w1 ⟨rfl, rfl⟩
    go_wp2
    go_returns
    exact ⟨congrArg Ending.returned PF.out.symm, O2.drop⟩
  obtain ⟨m, rfl⟩ : ∃ m, n = m + 1 := ⟨n - 1, by omega⟩
  have hm1 : (1 : Int) ≤ (m : Int) := by omega
  rw [show ((m + 1 : Nat) : Int) - 1 = (m : Int) by omega] at LA
  by_cases h2 : 64 < m
  · have PF := Lib.hid (parseV_false (parseB_loc (PV.out.trans (by rw [decide_eq_false (by omega)]; rfl))))
    have hc : (64 : Int) < (m : Int) := by omega
    clear PV HN hle h1
    have O2 := (O.newBox #[.string ⟨s.toArray⟩] 9).alloc (.cells #[.int .i64 (m : Int)] 3)
    go_enter Tryz.func50, Tryz.ntmps50
    go_wp2_with fail
    refine (LA _).mono ?_
    clear LA
    rintro e w1 ⟨rfl, rfl⟩
    go_wp2
    go_returns
    exact ⟨congrArg Ending.returned PF.out.symm, O2.drop⟩
  have hm64 : (m : Int) ≤ 64 := by omega
  have PV2 : Hid (locOk s = (!(s.getLast? == some 46) && (atomsB (s.take m) || quotedB (s.take m)))) := by
    unfold Hid
    rw [PV.out, decide_eq_true (by omega)]; rfl
  clear PV h1 h2
  have O1 := O.newBox #[.string ⟨s.toArray⟩] 9
  have O2 := O1.newBox #[.int .i64 (m : Int)] 3
  rw [show (w.alloc (.cells #[.string ⟨s.toArray⟩] 9)).heap.size = w.heap.size + 1 by simp] at O2
  obtain ⟨S, hS⟩ : ∃ S, S = w.heap.size := ⟨_, rfl⟩
  rw [← hS] at O2
  have HSz : s.length ≤ 140737488351232 := by omega
  have hml : m ≤ s.length := by omega
  have CK := containsKinds_own K (O2.pick 1) hml HSz
  have HSF2 := fun w => HSF w (by simp [ByteArray.size]; omega)
  have e46 : Lib.hasSuffix s [46] = (s.getLast? == some 46) := has_suf s 46
  simp only [e46] at HSF2
  clear HSF e46 O1
  generalize (s.getLast? == some 46) = dot at PV2 HSF2
  generalize hat : atomsB (s.take m) = a1 at PV2 CK
  generalize hqu : quotedB (s.take m) = q1 at PV2 CK
  clear hat hqu
  go_enter Tryz.func50, Tryz.ntmps50
  go_wp2_with fail
  refine (LA _).mono ?_
  clear LA
  rintro e w1 ⟨rfl, rfl⟩
  go_wp2_with fail
  refine (HSF2 _).mono ?_
  rintro e w1 ⟨rfl, rfl⟩
  cases dot
  rotate_left
  · have PF := Lib.hid (parseV_false (parseB_loc (PV2.out.trans (by rfl))))
    clear PV2 HN CK
    go_wp2
    go_returns
    exact ⟨congrArg Ending.returned PF.out.symm, O2.drop.drop⟩
  clear HSF2 O2
  go_wp2_with fail
  rw [← hS]
  refine CK.mono ?_
  clear CK
  rintro e w1 ⟨rfl, O2⟩
  obtain ⟨ok, hok⟩ : ∃ ok, ok = (a1 || q1) := ⟨_, rfl⟩
  rw [← hok]
  have PV3 : Hid (locOk s = ok) := by unfold Hid; rw [PV2.out, hok]; rfl
  clear hok PV2
  cases ok
  · have PF := Lib.hid (parseV_false (parseB_loc PV3.out))
    clear PV3 HN
    go_wp2
    go_returns
    exact ⟨congrArg Ending.returned PF.out.symm, O2.drop.drop⟩
  have PM := Lib.hid (parseB_may PV3.out)
  rw [← HN.out] at PM
  have LD : Hid (locL s = s.take m ∧ domL s = folded (s.drop (m + 1))) := by unfold Hid locL domL; rw [← HN.out]; exact ⟨rfl, rfl⟩
  clear PV3 HN
  have c0 : w1.cell? ⟨w.heap.size, 0, none⟩ = some (.string ⟨s.toArray⟩) := by rw [← hS]; exact O2.cell 0
  have c1 : w1.cell? ⟨w.heap.size + 1, 0, none⟩ = some (.int .i64 m) := by rw [← hS]; exact (O2.pick 1).cell 0
  have s1 : IntKind.i64.wrap ((m : Int) + 1) = ((m + 1 : Nat) : Int) := by rw [IntWalk.i64_in _ (by omega)]; omega
  have sub := run_subFrom s (m + 1) hle
  have FA := fun w => fold_any (s.drop (m + 1)) w (by simp; omega)
  go_wp2_with fail
  refine (FA _).mono ?_
  rintro e w2 ⟨rfl, ch⟩
  replace O2 := O2.pure ch
  clear c0 c1 ch sub s1 FA
  have c0 : w2.cell? ⟨w.heap.size, 0, none⟩ = some (.string ⟨s.toArray⟩) := by rw [← hS]; exact O2.cell 0
  have c1 : w2.cell? ⟨w.heap.size + 1, 0, none⟩ = some (.int .i64 m) := by rw [← hS]; exact (O2.pick 1).cell 0
  have sub2 := run_subTo s m hml
  unfold foldV
  rw [← LD.out.2]
  have PM2 : Hid (parseB s = may (domL s)) := by unfold Hid; rw [LD.out.2]; exact PM.out
  cases hmay : may (domL s)
  · have PF := Lib.hid (parseV_false (PM2.out.trans hmay))
    clear PM PM2 hmay LD
    go_wp2
    go_returns
    exact ⟨congrArg Ending.returned PF.out.symm, O2.drop.drop⟩
  · have PF := Lib.hid (parseV_true (PM2.out.trans hmay))
    rw [LD.out.1] at PF
    clear PM PM2 hmay LD
    generalize domL s = dd at PF ⊢
    go_wp2
    go_returns
    exact ⟨congrArg Ending.returned PF.out.symm, O2.drop.drop⟩
end Go.Proofs.YtehkdbgoeakgbaaGreatDoor
/- addr: May, Show, Same, Path, Unpath. -/
namespace Go.Proofs.YtehkdbgoeakgbaaGreatDoor
set_option linter.all false
open Go.RowKit

theorem parse_cases (s : List UInt8) : (parseB s = true ∧ parseV s = .tuple #[.string ⟨(locL s).toArray⟩, .string ⟨(domL s).toArray⟩, .int .i64 0]) ∨ (parseB s = false ∧ parseV s = .tuple #[.string ⟨#[]⟩, .string ⟨#[]⟩, .int .i64 4]) := by
  cases h : parseB s
  · exact .inr ⟨rfl, parseV_false h⟩
  · exact .inl ⟨rfl, parseV_true h⟩
theorem amay_own {w0 w : World} {L : List Piece} (K : Kinds w0) (O : Own w0 w L) (s : List UInt8) (hs : s.length ≤ 100000000) :
    Calls Tryz.prog 28 #[.string ⟨s.toArray⟩] w fun e w' => e = .returned (.bool (parseB s)) ∧ Own w0 w' L := by
  have P := parse_own K O s hs
  go_enter Tryz.func28, Tryz.ntmps28
  go_wp2_with fail
  refine P.mono ?_
  clear P O
  rintro e w1 ⟨rfl, O⟩
  rcases parse_cases s with ⟨e1, e2⟩ | ⟨e1, e2⟩
  · have E1 := Lib.hid e1
    rw [e2]
    clear e1 e2
    go_wp2
    go_ret
    rw [E1.out]; exact ⟨rfl, O⟩
  · have E1 := Lib.hid e1
    rw [e2]
    clear e1 e2
    go_wp2
    go_ret
    rw [E1.out]; exact ⟨rfl, O⟩
def showB (l d : List UInt8) : Bool := parseB (l ++ 64 :: d) && ((locL (l ++ 64 :: d) == l) && (domL (l ++ 64 :: d) == d))
def showL (l d : List UInt8) : List UInt8 := bif showB l d then l ++ 64 :: d else []
theorem show_yes {l d : List UInt8} (h : showB l d = true) : showL l d = l ++ 64 :: d := by unfold showL; rw [h]; rfl
theorem show_no {l d : List UInt8} (h : showB l d = false) : showL l d = [] := by unfold showL; rw [h]; rfl
theorem pathL_no {s : List UInt8} (h1 : s.isEmpty = false) (h2 : parseB s = false) : pathL s = [] := by unfold pathL; rw [h1, h2]; rfl
theorem pathL_emp {s : List UInt8} (h1 : s.isEmpty = true) : pathL s = 60 :: s ++ [62] := by unfold pathL; rw [h1]; rfl
theorem pathL_yes {s : List UInt8} (h2 : parseB s = true) : pathL s = 60 :: s ++ [62] := by unfold pathL; rw [h2, Bool.or_true]; rfl
theorem path_own {w0 w : World} {L : List Piece} (K : Kinds w0) (O : Own w0 w L) (s : List UInt8) (hs : s.length ≤ 100000000) :
    Calls Tryz.prog 24 #[.string ⟨s.toArray⟩] w fun e w' => e = .returned (.string ⟨(pathL s).toArray⟩) ∧ Own w0 w' L := by
  have M := amay_own K O s hs
  rcases Bool.eq_false_or_eq_true s.isEmpty with q1 | q1
  · have R := Lib.hid (pathL_emp q1)
    have q2 : (!s.isEmpty) = false := by rw [q1]; rfl
    clear M
    go_enter Tryz.func24, Tryz.ntmps24
    go_wp2
    go_ret
    rw [R.out]; exact ⟨rfl, O⟩
  · have q2 : (!s.isEmpty) = true := by rw [q1]; rfl
    rcases Bool.eq_false_or_eq_true (parseB s) with p1 | p1
    · have R := Lib.hid (pathL_yes p1)
      rw [p1] at M
      go_enter Tryz.func24, Tryz.ntmps24
      go_wp2_with fail
      refine M.mono ?_
      clear M O
      rintro e w1 ⟨rfl, O⟩
      go_wp2
      go_ret
      rw [R.out]; exact ⟨rfl, O⟩
    · have R := Lib.hid (pathL_no q1 p1)
      rw [p1] at M
      go_enter Tryz.func24, Tryz.ntmps24
      go_wp2_with fail
      refine M.mono ?_
      clear M O
      rintro e w1 ⟨rfl, O⟩
      go_wp2
      go_ret
      rw [R.out]; exact ⟨rfl, O⟩

/-- what a path has within, and whether it is one -/
def unL (s : List UInt8) : List UInt8 := (cutSuf 62 (cutPre 60 s).1).1
def unB (s : List UInt8) : Bool := (cutPre 60 s).2 && ((cutSuf 62 (cutPre 60 s).1).2 && ((unL s).isEmpty || parseB (unL s)))
def unV (s : List UInt8) : Value := bif unB s then .tuple #[.string ⟨(unL s).toArray⟩, .int .i64 0] else .tuple #[.string ⟨#[]⟩, .int .i64 4]
theorem unV_no {s : List UInt8} (h : unB s = false) : unV s = .tuple #[.string ⟨#[]⟩, .int .i64 4] := by unfold unV; rw [h]; rfl
theorem unV_yes {s : List UInt8} (h : unB s = true) : unV s = .tuple #[.string ⟨(unL s).toArray⟩, .int .i64 0] := by unfold unV; rw [h]; rfl
theorem pathL_is (s : List UInt8) : (pathL s == []) = !(s.isEmpty || parseB s) := by
  unfold pathL; cases (s.isEmpty || parseB s) <;> rfl
set_option maxHeartbeats 1000000 in
theorem unpath_own {w0 w : World} {L : List Piece} (K : Kinds w0) (O : Own w0 w L) (s : List UInt8) (hs : s.length ≤ 100000000) :
    Calls Tryz.prog 56 #[.string ⟨s.toArray⟩] w fun e w' => e = .returned (unV s) ∧ Own w0 w' L := by
  have UB : Hid (unB s = ((cutPre 60 s).2 && ((cutSuf 62 (cutPre 60 s).1).2 && ((unL s).isEmpty || parseB (unL s))))) := rfl
  have HU : Hid (unL s = (cutSuf 62 (cutPre 60 s).1).1) := rfl
  have HY := fun h => Lib.hid (unV_yes (s := s) h)
  have HN := fun h => Lib.hid (unV_no (s := s) h)
  obtain ⟨r, hr⟩ : ∃ r, r = unV s := ⟨_, rfl⟩
  rw [← hr] at HY HN ⊢
  clear hr
  generalize unB s = b at UB HY HN
  have l1 := cutPre_le 60 s
  have l2 := cutSuf_le 62 (cutPre 60 s).1
  have C1 := cutPre_at s w 60
  have C2 := cutSuf_at (cutPre 60 s).1 w 62 (by omega)
  rw [← HU.out] at l2 C2
  generalize (cutSuf 62 (cutPre 60 s).1).2 = b2 at UB C2
  generalize (cutPre 60 s).2 = b1 at UB C1
  generalize (cutPre 60 s).1 = t1 at l1 l2 C1 C2
  generalize unL s = t2 at UB HY l2 C2
  have PT := path_own K O t2 (by omega)
  clear l1 l2 HU
  go_enter Tryz.func56, Tryz.ntmps56
  go_wp2_with fail
  refine C1.mono ?_
  rintro e w1 ⟨rfl, rfl⟩
  go_wp2_with fail
  refine C2.mono ?_
  rintro e w1 ⟨rfl, rfl⟩
  clear C1 C2
  cases b1
  · have R := HN UB.out
    clear UB HN HY
    go_wp2
    go_returns
    exact ⟨congrArg Ending.returned R.out.symm, O⟩
  cases b2
  · have R := HN UB.out
    clear UB HN HY
    go_wp2
    go_returns
    exact ⟨congrArg Ending.returned R.out.symm, O⟩
  go_wp2_with fail
  refine PT.mono ?_
  clear PT O
  rintro e w1 ⟨rfl, O⟩
  have E := pathL_is t2
  obtain ⟨q, hq⟩ : ∃ q, q = (t2.isEmpty || parseB t2) := ⟨_, rfl⟩
  rw [← hq] at E UB
  clear hq
  generalize pathL t2 = p at E ⊢
  have UB2 : b = q := UB.out
  cases q
  · have R := HN UB2
    have E2 : p = [] := by simpa using E
    subst E2
    clear UB UB2 HN HY
    go_wp2
    go_returns
    exact ⟨congrArg Ending.returned R.out.symm, O⟩
  · have R := HY UB2
    have E2 : p.isEmpty = false := by cases p with
      | nil => simp at E
      | cons _ _ => rfl
    clear UB UB2 HN HY
    go_wp2
    go_returns
    exact ⟨congrArg Ending.returned R.out.symm, O⟩
end Go.Proofs.YtehkdbgoeakgbaaGreatDoor
/- addr, plain: what was parsed, shown, is the same; a path's address has that path. -/
namespace Go.Proofs.YtehkdbgoeakgbaaGreatDoor
set_option linter.all false
open Go.RowKit

theorem un_path {s : List UInt8} (h : (s.isEmpty || parseB s) = true) : pathL s = 60 :: s ++ [62] ∧ unV (60 :: s ++ [62]) = .tuple #[.string ⟨s.toArray⟩, .int .i64 0] := by
  have e1 : cutPre 60 (60 :: s ++ [62]) = (s ++ [62], true) := by simp [cutPre]
  have e2 : cutSuf 62 (s ++ [62]) = (s, true) := by unfold cutSuf; rw [if_pos (by simp)]; simp
  have e3 : unL (60 :: s ++ [62]) = s := by unfold unL; rw [e1]; simp only; rw [e2]
  refine ⟨by unfold pathL; rw [h]; rfl, ?_⟩
  rw [unV_yes, e3]
  unfold unB
  rw [e3, e1]
  simp only
  rw [e2, h]; rfl
theorem un_empty : unV [] = .tuple #[.string ⟨#[]⟩, .int .i64 4] := by kernel_rfl
theorem cutPre_true {p : UInt8} {s : List UInt8} (h : (cutPre p s).2 = true) : s = p :: (cutPre p s).1 := by
  cases s with
  | nil => simp [cutPre] at h
  | cons c r =>
    unfold cutPre at h ⊢
    by_cases e : c = p
    · simp only [if_pos e] at h ⊢; rw [e]
    · simp [e] at h
theorem cutSuf_true {p : UInt8} {s : List UInt8} (h : (cutSuf p s).2 = true) : s = (cutSuf p s).1 ++ [p] := by
  have h2 : s.getLast? = some p := by rw [cutSuf_snd] at h; simpa using h
  unfold cutSuf
  rw [if_pos h2]
  have hne : s ≠ [] := by rintro rfl; simp at h2
  have := List.dropLast_concat_getLast hne
  rw [List.getLast?_eq_some_getLast hne] at h2
  simp only [Option.some.injEq] at h2
  rw [← h2]; exact this.symm
theorem path_un {t : List UInt8} (h : unB t = true) : pathL (unL t) = t ∧ ((unL t).isEmpty || parseB (unL t)) = true := by
  unfold unB at h
  simp only [Bool.and_eq_true] at h
  obtain ⟨h1, h2, h3⟩ := h
  refine ⟨?_, h3⟩
  unfold pathL
  rw [h3]
  show 60 :: (unL t) ++ [62] = t
  conv => rhs; rw [cutPre_true h1, cutSuf_true h2]
  rfl
theorem low_64 (c : UInt8) : low c = 64 ↔ c = 64 := by
  constructor
  · intro h
    have h2 := congrArg UInt8.toNat h
    rw [low_toNat] at h2
    have h3 : (64 : UInt8).toNat = 64 := rfl
    rw [h3] at h2
    split at h2
    · omega
    · exact UInt8.toNat_inj.1 h2
  · rintro rfl; rfl
theorem low_46 (c : UInt8) : low c = 46 ↔ c = 46 := by
  constructor
  · intro h
    have h2 := congrArg UInt8.toNat h
    rw [low_toNat] at h2
    have h3 : (46 : UInt8).toNat = 46 := rfl
    rw [h3] at h2
    split at h2
    · omega
    · exact UInt8.toNat_inj.1 h2
  · rintro rfl; rfl
theorem low_low (c : UInt8) : low (low c) = low c := by
  apply UInt8.toNat_inj.1
  rw [low_toNat (low c), low_toNat]
  split
  · rw [if_neg (by omega)]
  · rfl
theorem lastAt_none : ∀ {s : List UInt8}, (∀ c, c ∈ s → c ≠ 64) → lastAt s = 0
  | [], _ => rfl
  | c :: r, h => by
    have hr := lastAt_none (s := r) (fun d hd => h d (by simp [hd]))
    unfold lastAt
    rw [hr]
    simp [h c (by simp)]
theorem lastAt_app : ∀ (l d : List UInt8), (∀ c, c ∈ d → c ≠ 64) → lastAt (l ++ 64 :: d) = l.length + 1
  | [], d, h => by
    show lastAt (64 :: d) = 1
    unfold lastAt
    rw [lastAt_none h]; rfl
  | c :: r, d, h => by
    show lastAt (c :: (r ++ 64 :: d)) = _
    unfold lastAt
    rw [lastAt_app r d h]
    rfl
theorem may_ne {l : List UInt8} (h : may l = true) : l ≠ [] := by
  rintro rfl
  revert h
  decide +kernel
/-- an address's parts -/
structure Parts (s : List UInt8) : Prop where
  len : s.length = (locL s).length + 1 + (domL s).length
  one : 1 ≤ (locL s).length
  most : (locL s).length ≤ 64
  name : may (domL s) = true
  shows : showB (locL s) (domL s) = true
  same : sameB s (locL s ++ 64 :: domL s) = true
theorem parts_of {s : List UInt8} (h : parseB s = true) : Parts s := by
  have h0 := h
  unfold parseB at h
  simp only [Bool.and_eq_true] at h
  obtain ⟨hl, hm⟩ := h
  have hm' : may (domL s) = true := hm
  unfold locOk at hl
  simp only [Bool.and_eq_true, decide_eq_true_eq] at hl
  obtain ⟨⟨n2, n65⟩, hdot, hk⟩ := hl
  have hle := lastAt_le s
  have hll : (locL s).length = lastAt s - 1 := by unfold locL; simp; omega
  have hdne := may_ne hm'
  have hd0 : s.drop (lastAt s) ≠ [] := by
    intro e
    apply hdne
    unfold domL
    rw [e]; rfl
  have hlast : (s.drop (lastAt s)).getLast? = s.getLast? := by
    conv => rhs; rw [← List.take_append_drop (lastAt s) s]
    rw [List.getLast?_append]
    cases e : (s.drop (lastAt s)).getLast? with
    | none => exact absurd (List.getLast?_eq_none_iff.1 e) hd0
    | some c => simp
  have hnd : ¬ s.getLast? = some 46 := by simpa using hdot
  have hdom : domL s = (s.drop (lastAt s)).map low := by
    unfold domL folded
    rw [trim_suf]
    unfold cutSuf
    rw [if_neg (by rw [hlast]; exact hnd)]
  have hdl : (domL s).length = s.length - lastAt s := by rw [hdom]; simp
  have hno : ∀ c, c ∈ domL s → c ≠ 64 := by
    intro c hc
    rw [hdom] at hc
    obtain ⟨b, hb, rfl⟩ := List.mem_map.1 hc
    intro e
    rw [low_64] at e
    subst e
    obtain ⟨j, hj, he⟩ := List.mem_iff_getElem.1 hb
    cases q : lastAt s with
    | zero => omega
    | succ i =>
      obtain ⟨q1, q2, q3⟩ := lastAt_succ q
      simp only [List.getElem_drop] at he
      simp only [List.length_drop] at hj
      exact q3 (lastAt s + j) (by omega) (by omega) he
  have hX : lastAt (locL s ++ 64 :: domL s) = (locL s).length + 1 := lastAt_app _ _ hno
  have hXl : locL (locL s ++ 64 :: domL s) = locL s := by
    show (locL s ++ 64 :: domL s).take (lastAt (locL s ++ 64 :: domL s) - 1) = locL s
    rw [hX]; simp
  have hddot : ¬ (domL s).getLast? = some 46 := by
    rw [hdom, List.getLast?_map]
    intro e
    cases q : (s.drop (lastAt s)).getLast? with
    | none => rw [q] at e; simp at e
    | some c =>
      rw [q] at e
      simp only [Option.map_some, Option.some.injEq] at e
      rw [low_46] at e
      apply hnd
      rw [← hlast, q, e]
  have hfd : folded (domL s) = domL s := by
    unfold folded
    rw [trim_suf]
    unfold cutSuf
    rw [if_neg hddot]
    show (domL s).map low = domL s
    rw [hdom, List.map_map]
    apply List.map_congr_left
    intro c _
    exact low_low c
  have hXd : domL (locL s ++ 64 :: domL s) = domL s := by
    show folded ((locL s ++ 64 :: domL s).drop (lastAt (locL s ++ 64 :: domL s))) = domL s
    rw [hX]
    rw [show (locL s ++ 64 :: domL s).drop ((locL s).length + 1) = domL s by rw [List.drop_append]; simp]
    exact hfd
  have hXlast : (locL s ++ 64 :: domL s).getLast? = (domL s).getLast? := by
    rw [List.getLast?_append]
    cases e : domL s with
    | nil => exact absurd e hdne
    | cons a b => rw [List.getLast?_cons_cons]; cases q : (a :: b).getLast? with
      | none => simp at q
      | some c => simp
  have hXp : parseB (locL s ++ 64 :: domL s) = true := by
    unfold parseB
    have e1 : may (folded ((locL s ++ 64 :: domL s).drop (lastAt (locL s ++ 64 :: domL s)))) = may (domL s) := congrArg may hXd
    have e2 : (locL s ++ 64 :: domL s).take (lastAt (locL s ++ 64 :: domL s) - 1) = s.take (lastAt s - 1) := hXl
    have e3 : ((locL s ++ 64 :: domL s).getLast? == some 46) = false := by rw [hXlast]; simpa using hddot
    rw [e1, hm']
    unfold locOk
    rw [e2, e3, hX, decide_eq_true (by omega)]
    simpa using hk
  refine ⟨by omega, by omega, by omega, hm', ?_, ?_⟩
  · unfold showB; rw [hXp, hXl, hXd]; simp
  · unfold sameB; rw [hXp, hXl, hXd, h0]; simp
end Go.Proofs.YtehkdbgoeakgbaaGreatDoor
