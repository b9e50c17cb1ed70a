/- ReplyClass: the walk. -/
import Derived.Test.YtghgiaokdbeepaaReplyG
namespace Go.Proofs.Ytghgiaokdbeepaa
set_option linter.all false
open Go.RowKit

theorem digOk_bd {l : List UInt8} {k : Nat} (h : digOk l k = true) : lo k ≤ (l.getD k 0).toNat ∧ (l.getD k 0).toNat ≤ hi k := by simpa [digOk] using h
/-- what a line that may be has -/
theorem parse_ok {l : List UInt8} (h : (parse l).err = 0) : 3 ≤ l.length ∧ (parse l).code = num l 3 ∧ 50 ≤ (l.getD 0 0).toNat ∧ (l.getD 0 0).toNat ≤ 53 ∧ classOf (num l 3) = ((l.getD 0 0).toNat : Int) - 48 := by
  by_cases hb : l.length < 3 ∨ digOk l 0 = false ∨ digOk l 1 = false ∨ digOk l 2 = false
  · rw [parse_bad hb] at h; cases h
  · have h0 : digOk l 0 = true := by cases e : digOk l 0 <;> simp_all
    have h1 : digOk l 1 = true := by cases e : digOk l 1 <;> simp_all
    have h2 : digOk l 2 = true := by cases e : digOk l 2 <;> simp_all
    have b0 := digOk_bd h0
    have b1 := digOk_bd h1
    have b2 := digOk_bd h2
    simp only [lo, hi] at b0 b1 b2
    simp at b0 b1 b2
    refine ⟨by omega, ?_, by simpa using b0.1, by simpa using b0.2, ?_⟩
    · have hc : (parse l).code = num l 3 ∨ (parse l) = badLine := by
        unfold parse
        rw [if_neg hb]
        split
        · exact .inl rfl
        · split
          · exact .inl rfl
          · exact .inr rfl
      rcases hc with hc | hc
      · exact hc
      · rw [hc] at h; cases h
    · simp only [num, classOf]
      simp
      split <;> omega
def second (p q : Parsed) : Int := if q.err ≠ 0 then 4 else if p.more = true ∧ q.code ≠ p.code then 4 else 0
theorem line_first {s : List UInt8} (h : (parse s).err = 0) : (Rd.zero.line s).1.dead = false ∧ ((parse s).more = true → (Rd.zero.line s).1.now = ⟨(parse s).code, [], [(parse s).text]⟩) ∧ ((parse s).more = false → (Rd.zero.line s).1.now = Rep.zero) := by
  have e : Rd.zero.lineErr (parse s) = 0 := by simp [Rd.lineErr, h, Rd.zero, Rep.zero]
  have e1 : Rd.zero.line s = Rd.zero.lineGo (parse s) := by simp [Rd.line, Rd.zero]
  rw [e1]
  unfold Rd.lineGo
  rw [if_neg (by simp [e])]
  cases hm : (parse s).more <;> simp [Rd.zero, Rep.zero]
theorem line_second {s t : List UInt8} (h : (parse s).err = 0) : ((Rd.zero.line s).1.line t).2.2 = second (parse s) (parse t) := by
  obtain ⟨h1, h2, h3⟩ := line_first h
  generalize (Rd.zero.line s).1 = m at *
  have e1 : m.line t = m.lineGo (parse t) := by simp [Rd.line, h1]
  rw [e1]
  have he := parse_err t
  have e2 : m.lineErr (parse t) = second (parse s) (parse t) := by
    unfold Rd.lineErr second
    rcases he with he | ⟨_, he⟩
    · cases hm : (parse s).more
      · simp [h3 hm, Rep.zero, he]
      · simp [h2 hm, he]
    · simp [he]
  unfold Rd.lineGo
  rw [e2]
  split
  · rfl
  · rename_i hz; simp at hz; rw [hz]; split <;> rfl

theorem line_len {s : List UInt8} (h : (parse s).err = 0) : (Rd.zero.line s).1.now.lines.length ≤ 1000000 := by
  obtain ⟨_, h2, h3⟩ := line_first h
  cases hm : (parse s).more
  · rw [h3 hm]; simp [Rep.zero]
  · rw [h2 hm]; simp

set_option maxHeartbeats 2000000 in
theorem replyClass_walk (s : List UInt8) (hs : s.length ≤ 140737488351232) (t : List UInt8) (ht : t.length ≤ 140737488351232) (w : World) :
    Calls Try.prog 3 #[.string ⟨s.toArray⟩, .string ⟨t.toArray⟩] w fun e w' => e = .returned (.bool true) ∧ Below w.heap.size w w' := by
  by_cases hl : 9000 < s.length + t.length
  · have hl' : (9000 : Int) < (s.length : Int) + (t.length : Int) := by omega
    go_enter Try.func3, Try.ntmps3
    go_wp2_with fail
    refine (awake_any _).mono ?_
    rintro e w1 ⟨rfl, ch⟩
    have C := Lib.hid ch; clear ch
    go_wp2
    go_ret
    exact ⟨rfl, C.out.below (Nat.le_refl _) (by simp)⟩
  have hl' : (s.length : Int) + (t.length : Int) ≤ 9000 := by omega
  have hms : s.length ≤ maxLen := by unfold maxLen; omega
  have hmt : t.length ≤ maxLen := by unfold maxLen; omega
  go_enter Try.func3, Try.ntmps3
  go_wp2_with fail
  refine (awake_any _).mono ?_
  rintro e w1 ⟨rfl, ch1⟩
  have C1 := Lib.hid ch1; clear ch1
  go_wp2_with fail
  refine (parse_any s _ hms).mono ?_
  rintro e w2 ⟨rfl, ch2⟩
  have C2 := Lib.hid (C1.out.pure ch2); clear ch2
  unfold parsedV
  go_wp2_with fail
  refine (parse_any t _ hmt).mono ?_
  rintro e w3 ⟨rfl, ch3⟩
  have C3 := Lib.hid (C2.out.pure ch3); clear ch3
  unfold parsedV
  have hpe := parse_err s
  rcases hpe with he | ⟨hb, he⟩
  rotate_left
  · have he' : ((parse s).err != 0) = true := by rw [he]; rfl
    have he2 : ((parse s).err == 4) = true := by rw [he]; rfl
    have hc : ((parse s).code == 0) = true := by rw [hb]; rfl
    clear hb he
    go_wp2
    go_ret
    exact ⟨rfl, C3.out.below (Nat.le_refl _) (by simp)⟩
  have he' : ((parse s).err != 0) = false := by rw [he]; rfl
  obtain ⟨hl3, hcode, hd1, hd2, hcl⟩ := parse_ok he
  have hl0 : 0 < s.length := by omega
  rw [getD_lt s 0 hl0] at hd1 hd2 hcl
  have HE := Lib.hid he; clear he
  have hcl' : classOf (parse s).code = (s[0].toNat : Int) - 48 := by rw [hcode]; exact hcl
  have HCL := Lib.hid hcl'; clear hcl' hcl hcode
  have hb1 : 50 ≤ (s[0].toNat : Int) := by omega
  have hb2 : (s[0].toNat : Int) ≤ 53 := by omega
  go_wp2_with fail
  have CL : ∀ w, Calls Try.prog 11 #[.int .i64 (parse s).code] w fun e w' => e = .returned (.int .i64 ((s[0].toNat : Int) - 48)) ∧ w' = w := fun w => (class_any _ _).mono fun e w' h => ⟨by rw [← HCL.out]; exact h.1, h.2.symm⟩
  have CL := Lib.hid CL
  have hne : ((s[0].toNat : Int) - 48 != (s[0].toNat : Int) - 48) = false := by simp
  go_quiet ((go_at_call 11; exact Calls.quiet_of_same (CL.out _)))
  go_wp2_with fail
  refine (new_any _ w.heap.size (by have := C3.out.size; simpa using this)).mono ?_
  rintro e w4 ⟨p, F4, rfl, r4, ch4, hf4, a, rfl⟩
  have R4 := Lib.hid r4
  have C4 := Lib.hid ((C3.out.drewN _).pure ch4); clear r4 ch4 hf4
  go_wp2_with fail
  refine (line_any s (by omega) _ _ _ _ _ R4.out (by decide)).mono ?_
  rintro e w5 ⟨rfl, F5, r5, ch5, hf5⟩
  unfold doneV
  have R5 := Lib.hid r5
  have C5 := Lib.hid (C4.out.own ch5 (fun k hk => (R4.out.lt k hk).1)); clear r5 ch5 hf5
  have hlen := line_len HE.out
  go_wp2_with fail
  refine (line_any t (by omega) _ _ _ _ _ R5.out hlen).mono ?_
  rintro e w6 ⟨rfl, F6, r6, ch6, hf6⟩
  unfold doneV
  rw [line_second HE.out]
  have C6 := Lib.hid (C5.out.own ch6 (fun k hk => (R5.out.lt k hk).1)); clear r6 ch6 hf6 hlen
  have hq := parse_err t
  rcases hq with hq | ⟨_, hq⟩
  rotate_left
  · have X : second (parse s) (parse t) = 4 := by simp [second, hq]
    rw [X]
    have hq' : ((parse t).err != 0) = true := by rw [hq]; rfl
    clear hq X
    go_wp2
    go_ret
    exact ⟨rfl, C6.out.below (Nat.le_refl _) (by simp)⟩
  · have hq' : ((parse t).err != 0) = false := by rw [hq]; rfl
    by_cases hm : (parse s).more = true
    · by_cases hc : (parse s).code = (parse t).code
      · have X : second (parse s) (parse t) = 0 := by simp [second, hq, hc]
        rw [X]
        have hc' : ((parse s).code == (parse t).code) = true := by simp [hc]
        clear hq X hc
        go_wp2
        go_ret
        exact ⟨rfl, C6.out.below (Nat.le_refl _) (by simp)⟩
      · have X : second (parse s) (parse t) = 4 := by simp [second, hq, hm]; intro h; exact absurd h.symm hc
        rw [X]
        have hc' : ((parse s).code == (parse t).code) = false := by simp [hc]
        clear hq X hc
        go_wp2
        go_ret
        exact ⟨rfl, C6.out.below (Nat.le_refl _) (by simp)⟩
    · have hm' : (parse s).more = false := by simpa using hm
      have X : second (parse s) (parse t) = 0 := by simp [second, hq, hm']
      rw [X]
      clear hq X hm
      go_wp2
      go_ret
      exact ⟨rfl, C6.out.below (Nat.le_refl _) (by simp)⟩
end Go.Proofs.Ytghgiaokdbeepaa
