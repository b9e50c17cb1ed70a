/- addr: letter, each, the closures of atoms and quoted. -/
import Derived.Test.YtehkdbgoeakgbaaDoorAdA
import Derived.Test.YtehkdbgoeakgbaaDoorAdShelf
import Derived.Lib.IndexAny
namespace Go.Proofs.YtehkdbgoeakgbaaDoor
set_option linter.all false
open Go.RowKit

theorem letter_any (c : UInt8) (w : World) : Calls Tryd.prog 129 #[.int .u8 (c.toNat : Int)] w fun e w' => e = .returned (.bool (letterB c)) ∧ w = w' := by
  obtain ⟨r, hr⟩ : ∃ r, r = letterB c := ⟨_, rfl⟩
  rw [← hr]
  have HR := Lib.hid hr
  clear hr
  by_cases h1 : 97 ≤ (c.toNat : Int)
  · by_cases h2 : (c.toNat : Int) ≤ 122
    · have e : r = true := by rw [HR.out]; simp [letterB]; omega
      subst e
      go_enter Tryd.func129, Tryd.ntmps129
      go_wp2
      go_ret
      exact ⟨rfl, rfl⟩
    · have h3 : ¬ (c.toNat : Int) ≤ 90 := by omega
      have h4 : ¬ (c.toNat : Int) ≤ 57 := by omega
      have h5 : (65 : Int) ≤ (c.toNat : Int) := by omega
      have h6 : (48 : Int) ≤ (c.toNat : Int) := by omega
      have e : r = false := by rw [HR.out]; simp [letterB]; omega
      subst e
      go_enter Tryd.func129, Tryd.ntmps129
      go_wp2
      go_ret
      exact ⟨rfl, rfl⟩
  · by_cases h2 : 65 ≤ (c.toNat : Int)
    · by_cases h3 : (c.toNat : Int) ≤ 90
      · have e : r = true := by rw [HR.out]; simp [letterB]; omega
        subst e
        go_enter Tryd.func129, Tryd.ntmps129
        go_wp2
        go_ret
        exact ⟨rfl, rfl⟩
      · have h4 : ¬ (c.toNat : Int) ≤ 57 := by omega
        have h6 : (48 : Int) ≤ (c.toNat : Int) := by omega
        have e : r = false := by rw [HR.out]; simp [letterB]; omega
        subst e
        go_enter Tryd.func129, Tryd.ntmps129
        go_wp2
        go_ret
        exact ⟨rfl, rfl⟩
    · by_cases h3 : 48 ≤ (c.toNat : Int)
      · by_cases h4 : (c.toNat : Int) ≤ 57
        · have e : r = true := by rw [HR.out]; simp [letterB]; omega
          subst e
          go_enter Tryd.func129, Tryd.ntmps129
          go_wp2
          go_ret
          exact ⟨rfl, rfl⟩
        · have e : r = false := by rw [HR.out]; simp [letterB]; omega
          subst e
          go_enter Tryd.func129, Tryd.ntmps129
          go_wp2
          go_ret
          exact ⟨rfl, rfl⟩
      · have e : r = false := by rw [HR.out]; simp [letterB]; omega
        subst e
        go_enter Tryd.func129, Tryd.ntmps129
        go_wp2
        go_ret
        exact ⟨rfl, rfl⟩

theorem eachRun_app (f : Bool → UInt8 → Bool × Bool) : ∀ (st : Bool) (a b : List UInt8), eachRun f st (a ++ b) = bif (eachRun f st a).1 then eachRun f (eachRun f st a).2 b else (false, (eachRun f st a).2)
  | st, [], b => by simp [eachRun]
  | st, c :: a, b => by
    simp only [List.cons_append, eachRun]
    cases (f st c).1
    · simp
    · simpa using eachRun_app f (f st c).2 a b
/-- a test of bytes, handed over as a function that keeps a bool in what it has caught -/
def Tests (cf : Nat) (lb : Array Value) (it : Bool → List Piece) (f : Bool → UInt8 → Bool × Bool) : Prop :=
  ∀ (w0 w : World) (L : List Piece) (st : Bool) (c : UInt8), Own w0 w (it st ++ L) →
    Calls Tryd.prog cf (#[.int .u8 (c.toNat : Int)] ++ lb) w fun e w' => e = .returned (.bool (f st c).1) ∧ Own w0 w' (it (f st c).2 ++ L)
set_option maxHeartbeats 1000000 in
theorem each_own {cf : Nat} {lb : Array Value} {it : Bool → List Piece} {f : Bool → UInt8 → Bool × Bool} (hf : Tests cf lb it f) (eg : ∀ args w, (callFunc cf args).run Tryd.prog w = .ok (.enter cf args) w)
    {w0 w : World} {L : List Piece} (st : Bool) (s : List UInt8) (hs : s.length ≤ 140737488351232) (O : Own w0 w (it st ++ L)) :
    Calls Tryd.prog 127 #[.string ⟨s.toArray⟩, .func (.func cf) #[] lb] w fun e w' => e = .returned (.bool (eachRun f st s).1) ∧ Own w0 w' (it (eachRun f st s).2 ++ L) := by
  obtain ⟨res, hres⟩ : ∃ r, r = eachRun f st s := ⟨_, rfl⟩
  rw [← hres]
  have HR := Lib.hid hres
  clear hres
  go_enter Tryd.func127, Tryd.ntmps127
  go_wp2
  go_loopw [8] (fun i wr => ∃ (k : Nat) (st1 : Bool), k ≤ s.length ∧ i = .int .i64 k ∧ eachRun f st (s.take k) = (true, st1) ∧ Own w0 wr (it st1 ++ L)) (fun i _ => s.length - (intOf i).toNat)
  case atStart => exact ⟨0, st, by omega, rfl, rfl, O⟩
  case round =>
    clear O
    obtain ⟨k, st1, hk, rfl, ha, O⟩ := hrel
    have HA := Lib.hid ha
    clear ha
    by_cases hlt : k < s.length
    · have hb1 : (k : Int) < (s.length : Int) := by omega
      have TK := Lib.hid (List.take_succ_eq_append_getElem hlt)
      go_wp2_with fail
      refine (hf w0 _ L st1 s[k] O).mono ?_
      clear O
      rintro e w1 ⟨rfl, O⟩
      have NX : Hid (eachRun f st (s.take (k + 1)) = ((f st1 s[k]).1, (f st1 s[k]).2)) := by
        unfold Hid
        rw [TK.out, eachRun_app, HA.out]
        cases h : (f st1 s[k]).1 <;> simp [eachRun, h]
      obtain ⟨b, hb⟩ : ∃ b, b = (f st1 s[k]).1 := ⟨_, rfl⟩
      obtain ⟨st2, hs2⟩ : ∃ b, b = (f st1 s[k]).2 := ⟨_, rfl⟩
      rw [← hb, ← hs2] at NX
      rw [← hs2] at O
      rw [← hb]
      have HB := Lib.hid hb
      clear hb hs2
      cases b
      · go_wp2
        go_ret
        have fin : res = (false, st2) := by
          rw [HR.out]
          conv => lhs; rw [← List.take_append_drop (k + 1) s]
          rw [eachRun_app, NX.out]
          rfl
        rw [fin]
        exact ⟨rfl, O⟩
      · go_wp2
        go_roundw
        case rel => exact ⟨k + 1, st2, by omega, by go_num, NX.out, O⟩
        case measure => simp [intOf]; omega
    · obtain rfl : k = s.length := by omega
      have fin : res = (true, st1) := by rw [HR.out, ← HA.out, List.take_length]
      go_wp2
      go_ret
      rw [fin]
      exact ⟨rfl, O⟩

theorem letter_at (c : UInt8) (w : World) : Calls Tryd.prog 129 #[.int .u8 (c.toNat : Int)] w fun e w' => e = .returned (.bool (letterB c)) ∧ w' = w :=
  (letter_any c w).mono (fun _ _ ⟨h1, h2⟩ => ⟨h1, h2.symm⟩)
def itB (B : Nat) (st : Bool) : List Piece := [box B #[.bool st] 4]
theorem sign_in (c : UInt8) : Hid (signsL.contains c = decide (0 ≤ Lib.indexByte signsL c)) := Lib.contains_iff_indexByte _ _
set_option maxHeartbeats 1000000 in
theorem atoms1_tests (B : Nat) : Tests 128 #[.pointer (some ⟨B, 0, none⟩)] (itB B) stepA := by
  intro w0 w L st c O
  change Own w0 w (box B #[.bool st] 4 :: L) at O
  have c0 : w.cell? ⟨B, 0, none⟩ = some (.bool st) := O.cell 0
  have f0 : w.frozen? ⟨B, 0, none⟩ = false := O.free 0
  have O2 := fun b => O.set 0 (.bool b)
  have c1 : ∀ b, (w.setCell ⟨B, 0, none⟩ (.bool b)).cell? ⟨B, 0, none⟩ = some (.bool b) := fun b => (O2 b).cell 0
  by_cases h : (c.toNat : Int) = 46
  · have hb : ((c.toNat : Int) == 46) = true := by simp [h]
    have hc : c = 46 := by apply UInt8.toNat_inj.1; simpa using (show c.toNat = 46 by omega)
    have HS : Hid (stepA st c = (!st, true)) := by unfold Hid; rw [hc]; cases st <;> rfl
    clear h hc
    go_enter Tryd.func128, Tryd.ntmps128
    cases st <;> (go_wp2; go_ret; rw [HS.out]; exact ⟨rfl, O2 true⟩)
  · have hb : ((c.toNat : Int) == 46) = false := by simp [h]
    have hc : (c == 46) = false := by
      cases e : c == 46 with
      | false => rfl
      | true => exfalso; apply h; rw [beq_iff_eq.1 e]; rfl
    have HS : Hid (stepA st c = (letterB c || signsL.contains c, false)) := by unfold Hid stepA; rw [hc]; simp
    clear h hc
    obtain ⟨a, ha⟩ : ∃ a, a = letterB c := ⟨_, rfl⟩
    have LA : ∀ w1, Calls Tryd.prog 129 #[.int .u8 (c.toNat : Int)] w1 fun e w' => e = .returned (.bool a) ∧ w' = w1 := by rw [ha]; exact letter_at c
    have SG := sign_in c
    rw [← ha] at HS
    clear ha
    go_enter Tryd.func128, Tryd.ntmps128
    go_wp2_with fail
    refine (LA _).mono ?_
    rintro e w1 ⟨rfl, rfl⟩
    cases a
    · go_wp2_with fail
      refine (Tryd.strings_IndexByte ⟨signsL.toArray⟩ (c.toNat : Int) _).mono ?_
      rintro e w1 ⟨rfl, rfl⟩
      rw [show ((c.toNat : Int).toNat.toUInt8) = c from by simp]
      rw [SG.out] at HS
      change Hid (stepA st c = (false || decide (0 ≤ Lib.indexByte (⟨signsL.toArray⟩ : ByteArray).data.toList c), false)) at HS
      generalize Lib.indexByte (⟨signsL.toArray⟩ : ByteArray).data.toList c = n at HS ⊢
      by_cases hn : 0 ≤ n
      · rw [decide_eq_true hn] at HS
        go_wp2
        go_ret
        rw [HS.out]; exact ⟨rfl, O2 false⟩
      · rw [decide_eq_false hn] at HS
        have hd : decide (0 ≤ n) = false := decide_eq_false hn
        go_wp2
        go_ret
        rw [HS.out]; exact ⟨rfl, O2 false⟩
    · go_wp2
      go_ret
      rw [HS.out]; exact ⟨rfl, O2 false⟩

theorem atoms_own {w0 w : World} {L : List Piece} (O : Own w0 w L) (s : List UInt8) (hs : s.length ≤ 140737488351232) :
    Calls Tryd.prog 125 #[.string ⟨s.toArray⟩] w fun e w' => e = .returned (.bool (atomsB s)) ∧ Own w0 w' L := by
  have O1 := O.newBox #[.bool true] 4
  obtain ⟨B, hB⟩ : ∃ B, B = w.heap.size := ⟨_, rfl⟩
  rw [← hB] at O1
  have HA : Hid (atomsB s = ((eachRun stepA true s).1 && !(eachRun stepA true s).2)) := rfl
  generalize atomsB s = res at HA ⊢
  go_enter Tryd.func125, Tryd.ntmps125
  go_wp2_with fail
  rw [← hB]
  refine (each_own (atoms1_tests B) (enters_of Tryd.func128 (by kernel_rfl) rfl) true s hs O1).mono ?_
  clear O O1
  rintro e w1 ⟨rfl, O⟩
  generalize eachRun stepA true s = r at HA O ⊢
  obtain ⟨a, st⟩ := r
  have c0 : w1.cell? ⟨w.heap.size, 0, none⟩ = some (.bool st) := by rw [← hB]; exact Own.cell O 0
  have HA2 : Hid (res = (a && !st)) := HA.out
  cases a
  · go_wp2
    go_ret
    rw [HA2.out]; exact ⟨rfl, O.drop⟩
  · cases st <;> (go_wp2; go_ret; rw [HA2.out]; exact ⟨rfl, O.drop⟩)

set_option maxHeartbeats 1000000 in
theorem quoted1_tests (B : Nat) : Tests 131 #[.pointer (some ⟨B, 0, none⟩)] (itB B) stepQ := by
  intro w0 w L st c O
  change Own w0 w (box B #[.bool st] 4 :: L) at O
  have c0 : w.cell? ⟨B, 0, none⟩ = some (.bool st) := O.cell 0
  have f0 : w.frozen? ⟨B, 0, none⟩ = false := O.free 0
  have O2 := fun b => O.set 0 (.bool b)
  have h256 : (c.toNat : Int) < 256 := by have := c.toNat_lt; omega
  by_cases h : (c.toNat : Int) = 92
  · have hc : c = 92 := by apply UInt8.toNat_inj.1; simpa using (show c.toNat = 92 by omega)
    have HS : Hid (stepQ st c = (true, !st)) := by unfold Hid; rw [hc]; cases st <;> rfl
    have hb : ((c.toNat : Int) == 92) = true := by simp [h]
    have hb2 : ((c.toNat : Int) != 34) = true := by simp [h]
    have h3 : 32 ≤ (c.toNat : Int) := by omega
    have h4 : (c.toNat : Int) ≤ 126 := by omega
    clear h hc
    go_enter Tryd.func131, Tryd.ntmps131
    cases st <;> (go_wp2; go_ret; rw [HS.out]; exact ⟨rfl, O2 _⟩)
  · have hb : ((c.toNat : Int) == 92) = false := by simp [h]
    have hc : (c == 92) = false := by
      cases e : c == 92 with
      | false => rfl
      | true => exfalso; apply h; rw [beq_iff_eq.1 e]; rfl
    have h34 : (c == 34) = ((c.toNat : Int) == 34) := by
      by_cases e : (c.toNat : Int) = 34
      · have hc : c = 34 := by apply UInt8.toNat_inj.1; simpa using (show c.toNat = 34 by omega)
        subst hc; rfl
      · have e1 : ((c.toNat : Int) == 34) = false := by simp [e]
        rw [e1]
        cases q : c == 34 with
        | false => rfl
        | true => exfalso; apply e; rw [beq_iff_eq.1 q]; rfl
    have HS : Hid (stepQ st c = (decide (32 ≤ c.toNat ∧ c.toNat ≤ 126) && (st || !((c.toNat : Int) == 34)), false)) := by unfold Hid stepQ; rw [hc, h34]; simp
    clear h hc h34
    by_cases h1 : 32 ≤ (c.toNat : Int)
    · by_cases h2 : (c.toNat : Int) ≤ 126
      · rw [decide_eq_true (show 32 ≤ c.toNat ∧ c.toNat ≤ 126 by omega)] at HS
        obtain ⟨q, hq⟩ : ∃ q, q = ((c.toNat : Int) == 34) := ⟨_, rfl⟩
        rw [← hq] at HS
        have hq1 : ((c.toNat : Int) == 34) = q := hq.symm
        have hq2 : ((c.toNat : Int) != 34) = !q := by rw [hq]; rfl
        clear hq
        go_enter Tryd.func131, Tryd.ntmps131
        cases st <;> cases q <;> (go_wp2; go_ret; rw [HS.out]; exact ⟨rfl, O2 false⟩)
      · rw [decide_eq_false (show ¬ (32 ≤ c.toNat ∧ c.toNat ≤ 126) by omega)] at HS
        go_enter Tryd.func131, Tryd.ntmps131
        cases st <;> (go_wp2; go_ret; rw [HS.out]; exact ⟨rfl, O2 false⟩)
    · rw [decide_eq_false (show ¬ (32 ≤ c.toNat ∧ c.toNat ≤ 126) by omega)] at HS
      go_enter Tryd.func131, Tryd.ntmps131
      cases st <;> (go_wp2; go_ret; rw [HS.out]; exact ⟨rfl, O2 false⟩)
end Go.Proofs.YtehkdbgoeakgbaaDoor
