/- StuffParts: the walk. -/
import Derived.Test.YtknellgmdmpabaaStuffBack
namespace Go.Proofs.Ytknellgmdmpabaa
set_option linter.all false
open Go.RowKit Go.Shelf

theorem cutL_two {s t : List UInt8} (h : (cutL s).2 = []) : cutL (s ++ t) = ((cutL s).1 ++ (cutL t).1, (cutL t).2) := by
  rw [cutL_app, h, List.nil_append]
theorem joinL_dot3 (ls : List (List UInt8)) : (joinL (ls ++ [[46]])).take ((joinL (ls ++ [[46]])).length - 3) = joinL ls := by
  rw [joinL_app]
  have : (joinL [[46]]).length = 3 := rfl
  rw [List.length_append, this, Nat.add_sub_cancel, List.take_left]
theorem stuff_two {s t a b : List UInt8} (hs : stuffV s = (a, 0)) (ht : stuffV t = (b, 0)) : stuffV (s ++ t) = (a.take (a.length - 3) ++ b, 0) ∧ dotsN (linesB (s ++ t)) = dotsN (linesB s) + dotsN (linesB t) ∧ 3 ≤ a.length := by
  have h1 : (cutL s).2 = [] := by
    by_cases h : (cutL s).2 = []
    · exact h
    · rw [stuffV, if_neg h] at hs; simp at hs
  have h2 : (cutL t).2 = [] := by
    by_cases h : (cutL t).2 = []
    · exact h
    · rw [stuffV, if_neg h] at ht; simp at ht
  have hc := cutL_two (t := t) h1
  rw [stuffV, if_pos h1] at hs
  rw [stuffV, if_pos h2] at ht
  simp only [Prod.mk.injEq, and_true] at hs ht
  subst hs ht
  refine ⟨?_, ?_, ?_⟩
  · rw [joinL_dot3, stuffV, hc, if_pos h2, List.map_append, List.append_assoc, joinL_app]
  · unfold linesB
    rw [hc, h1, h2]
    simp [dotsN]
  · rw [joinL_app, List.length_append]
    simp [joinL, crlf]
theorem stuff_bad {s t a : List UInt8} {f : Int} {b : List UInt8} (hs : stuffV s = (a, 0)) (ht : stuffV t = (b, f)) (hf : f ≠ 0) : stuffV (s ++ t) = ([], 4) := by
  have h1 : (cutL s).2 = [] := by
    by_cases h : (cutL s).2 = []
    · exact h
    · rw [stuffV, if_neg h] at hs; simp at hs
  have h2 : (cutL t).2 ≠ [] := by
    intro h
    rw [stuffV, if_pos h] at ht
    simp only [Prod.mk.injEq] at ht
    exact hf ht.2.symm
  rw [stuffV, cutL_two h1, if_neg h2]

set_option maxRecDepth 100000 in
set_option maxHeartbeats 4000000 in
theorem stuffParts_walk (w : World) (m : Int) (hm : w.cell? ⟨0, 0, none⟩ = some (.int .i64 m)) (s : List UInt8) (hs : s.length ≤ 140737488351232) (t : List UInt8) (ht : t.length ≤ 140737488351232) :
    Calls Try.prog 4 #[.string ⟨s.toArray⟩, .string ⟨t.toArray⟩] w fun e w' => e = .returned (.bool true) ∧ Below w.heap.size w w' := by
  have HM := Lib.hid hm; clear hm
  have O := Own.start w
  go_enter Try.func4, Try.ntmps4
  go_wp2_with fail
  refine (works_any _ m HM.out).mono ?_
  rintro e w1 ⟨rfl, ch⟩
  replace O := O.pure ch; clear ch
  by_cases hl1 : 4000 < (s.length : Int)
  · go_wp2_with fail
    refine (works_any _ m (O.chg.cell HM.out (by simp))).mono ?_
    rintro e w1 ⟨rfl, ch⟩
    replace O := O.pure ch; clear ch
    go_wp2
    go_ret
    exact ⟨rfl, O.below⟩
  have hl1' : ¬ 4000 < (s.length : Int) := hl1
  by_cases hl2 : 4000 < (t.length : Int)
  · go_wp2_with fail
    refine (works_any _ m (O.chg.cell HM.out (by simp))).mono ?_
    rintro e w1 ⟨rfl, ch⟩
    replace O := O.pure ch; clear ch
    go_wp2
    go_ret
    exact ⟨rfl, O.below⟩
  have hl2' : ¬ 4000 < (t.length : Int) := hl2
  have hsl := stuffV_len s
  have htl := stuffV_len t
  obtain ⟨⟨a, e⟩, ha⟩ : ∃ r, stuffV s = r := ⟨_, rfl⟩
  obtain ⟨⟨b, f⟩, hb⟩ : ∃ r, stuffV t = r := ⟨_, rfl⟩
  obtain ⟨⟨c, g⟩, hc⟩ : ∃ r, stuffV (s ++ t) = r := ⟨_, rfl⟩
  rw [ha] at hsl
  rw [hb] at htl
  dsimp only at hsl htl
  have hst : s.length + t.length ≤ 100000 := by omega
  have A := Lib.hid ha; have B := Lib.hid hb; have C := Lib.hid hc
  clear ha hb hc
  go_wp2_with fail
  refine (stuff_is O HM.out A.out (by omega)).mono ?_
  clear O
  rintro e1 w2 ⟨rfl, O⟩
  go_wp2_with fail
  refine (stuff_is O HM.out B.out (by omega)).mono ?_
  clear O
  rintro e1 w3 ⟨rfl, O⟩
  go_wp2_with fail
  refine (stuff_is O HM.out C.out (by simp; omega)).mono ?_
  clear O
  rintro e1 w4 ⟨rfl, O⟩
  by_cases he : e = 0
  · subst he
    by_cases hf : f = 0
    · subst hf
      obtain ⟨h1, h2, h3⟩ := stuff_two A.out B.out
      rw [C.out] at h1
      simp only [Prod.mk.injEq] at h1
      obtain ⟨hcc, rfl⟩ := h1
      have D := Lib.hid h2
      clear h2
      have e0 := (dotsN_le (linesB s)); have e0' := (dotsN_le (linesB t))
      have e01 := linesB_len s; have e02 := linesB_len t
      have e03 := cutL_len s; have e04 := cutL_len t
      obtain ⟨n1, hn1⟩ : ∃ n, dotsN (linesB s) = n := ⟨_, rfl⟩
      obtain ⟨n2, hn2⟩ : ∃ n, dotsN (linesB t) = n := ⟨_, rfl⟩
      have bn : n1 ≤ 100000 ∧ n2 ≤ 100000 := by
        rw [hn1] at e0
        rw [hn2] at e0'
        split at e01 <;> split at e02 <;> omega
      obtain ⟨bn1, bn2⟩ := bn
      rw [hn1, hn2] at D
      have N1 := Lib.hid hn1; have N2 := Lib.hid hn2
      clear hn1 hn2 e0 e0' e01 e02 e03 e04
      have b1 : (0 : Int) ≤ (a.length : Int) - 3 := by omega
      have b2 : (a.length : Int) - 3 ≤ (a.length : Int) := by omega
      have b3 : ((a.length : Int) - 3).toNat = a.length - 3 := by omega
      have b4 : a.length - 3 ≤ a.length := by omega
      have b5 : a.length ≤ 100000 := by omega
      have b6 : b.length ≤ 100000 := by omega
      have b7 : (a.take (a.length - 3)).length + b.length ≤ 300000 := by simp; omega
      have hcb : (c == a.take (a.length - 3) ++ b) = true := by rw [hcc]; simp
      clear hcc
      have i0 : (((n1 + n2 : Nat) : Int) == (n1 : Int) + (n2 : Int)) = true := by simp
      obtain ⟨n3, hn3⟩ : ∃ n, n = n1 + n2 := ⟨_, rfl⟩
      rw [← hn3] at D i0
      clear hn3
      go_wp2_with fail
      refine (dots_is O HM.out D.out (by simp; omega)).mono ?_
      clear O
      rintro e1 w5 ⟨rfl, O⟩
      go_wp2_with fail
      refine (dots_is O HM.out N1.out (by omega)).mono ?_
      clear O
      rintro e1 w5 ⟨rfl, O⟩
      go_wp2_with fail
      refine (dots_is O HM.out N2.out (by omega)).mono ?_
      clear O
      rintro e1 w5 ⟨rfl, O⟩
      go_wp2
      go_ret
      exact ⟨rfl, O.below⟩
    · have hg := stuff_bad A.out B.out hf
      rw [C.out] at hg
      simp only [Prod.mk.injEq] at hg
      obtain ⟨rfl, rfl⟩ := hg
      have hf' : (f != 0) = true := by simpa using hf
      go_wp2
      go_ret
      exact ⟨rfl, O.below⟩
  · have he' : (e != 0) = true := by simpa using he
    go_wp2
    go_ret
    exact ⟨rfl, O.below⟩
end Go.Proofs.Ytknellgmdmpabaa
