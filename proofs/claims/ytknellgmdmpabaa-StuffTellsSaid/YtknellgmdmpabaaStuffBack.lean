/- StuffBack: the walk. -/
import Derived.Test.YtknellgmdmpabaaStuffF
namespace Go.Proofs.Ytknellgmdmpabaa
set_option linter.all false
open Go.RowKit Go.Shelf

theorem stuffV_len (s : List UInt8) : (stuffV s).1.length ≤ 2 * s.length + 3 := by
  unfold stuffV
  split
  · have h1 := joinL_dots (cutL s).1
    have h2 := congrArg List.length (cutL_join s).1
    have h3 := cutL_len s
    rw [joinL_app]
    rw [List.length_append] at h2
    simp [joinL, crlf] at h1 h2 ⊢
    omega
  · simp
theorem uns_len : ∀ (ls : List (List UInt8)) (acc r : List UInt8), (uns acc ls r).1.length ≤ acc.length + (joinL ls).length ∧ (uns acc ls r).2.1.length ≤ (joinL ls).length + r.length
  | [], acc, r => by simp [uns]
  | l :: ls, acc, r => by
    have hj : (joinL (l :: ls)).length = l.length + 2 + (joinL ls).length := by simp [joinL, crlf]; omega
    rw [uns, hj]
    split
    · simp <;> omega
    · split
      · split
        · have := uns_len ls (acc ++ (l.tail ++ [13, 10])) r
          simp at this ⊢
          omega
        · simp
      · have := uns_len ls (acc ++ (l ++ [13, 10])) r
        simp at this ⊢
        omega
theorem unsV_len (s : List UInt8) : (unsV s).1.length ≤ s.length ∧ (unsV s).2.1.length ≤ s.length := by
  have h1 := uns_len (cutL s).1 [] (cutL s).2
  have h2 := congrArg List.length (cutL_join s).1
  rw [List.length_append] at h2
  unfold unsV
  simp at h1
  omega

set_option maxRecDepth 100000 in
set_option maxHeartbeats 4000000 in
theorem stuffBack_walk (w : World) (m : Int) (hm : w.cell? ⟨0, 0, none⟩ = some (.int .i64 m)) (s : List UInt8) (hs : s.length ≤ 140737488351232) (t : List UInt8) (ht : t.length ≤ 140737488351232) :
    Calls Try.prog 3 #[.string ⟨s.toArray⟩, .string ⟨t.toArray⟩] w fun e w' => e = .returned (.bool true) ∧ Below w.heap.size w w' := by
  have HM := Lib.hid hm; clear hm
  have O := Own.start w
  go_enter Try.func3, Try.ntmps3
  go_wp2_with fail
  refine (works_any _ m HM.out).mono ?_
  rintro e w1 ⟨rfl, ch⟩
  replace O := O.pure ch; clear ch
  by_cases hl1 : 4000 < (s.length : Int)
  · go_wp2_with fail
    refine (works_any _ m (O.chg.cell HM.out (by simp))).mono ?_
    rintro e w1 ⟨rfl, ch⟩
    replace O := O.pure ch; clear ch
    go_wp2
    go_ret
    exact ⟨rfl, O.below⟩
  have hl1' : ¬ 4000 < (s.length : Int) := hl1
  by_cases hl2 : 4000 < (t.length : Int)
  · go_wp2_with fail
    refine (works_any _ m (O.chg.cell HM.out (by simp))).mono ?_
    rintro e w1 ⟨rfl, ch⟩
    replace O := O.pure ch; clear ch
    go_wp2
    go_ret
    exact ⟨rfl, O.below⟩
  have hl2' : ¬ 4000 < (t.length : Int) := hl2
  have hsl := stuffV_len s
  have hul := unsV_len t
  have hE := ended_iff s
  -- what Unstuff of t makes
  have hU : ∃ a b f, unsV t = (a, b, f) ∧ a.length ≤ 4000 ∧ b.length ≤ 4000 ∧ (f ≠ 0 → a = [] ∧ b = []) ∧ (f = 0 → ∃ y, stuffV a = (y, 0) ∧ y ++ b = t) := by
    obtain ⟨⟨a, b, f⟩, hab⟩ : ∃ r, unsV t = r := ⟨_, rfl⟩
    rw [hab] at hul
    refine ⟨a, b, f, hab, by dsimp only at hul; omega, by dsimp only at hul; omega, fun hf => ?_, fun hf => ?_⟩
    · have hb := uns_bad (cutL t).1 [] (cutL t).2
      rw [show uns [] (cutL t).1 (cutL t).2 = (a, b, f) from hab] at hb
      have := hb hf
      simp only [Prod.mk.injEq] at this
      exact ⟨this.1, this.2.1⟩
    · subst hf
      exact stuff_unstuff hab
  obtain ⟨a, b, f, hab, ha, hb, hbad, hgood⟩ := hU
  have AB := Lib.hid hab; have BAD := Lib.hid hbad; have GOOD := Lib.hid hgood
  clear hab hbad hgood hul
  by_cases hr : (cutL s).2 = []
  focus
    have hv : ∃ x, stuffV s = (x, 0) := ⟨_, if_pos hr⟩
    obtain ⟨x, hx⟩ := hv
    have hB := unstuff_stuff hr t
    rw [hx] at hB hsl
    have HX := Lib.hid hx; have HB := Lib.hid hB
    clear hx hB
    dsimp only at hsl
    have hxt : x.length + t.length ≤ 100000 := by omega
    have i1 := frn_str s; have i2 := frn_str t
    rcases hE.1 hr with h0 | ⟨h1, h2⟩
    focus
      subst h0
      clear hE hr
      go_wp2_with fail
      refine (stuff_is O HM.out HX.out (by decide)).mono ?_
      clear O
      rintro e w2 ⟨rfl, O⟩
      go_wp2_with fail
    rotate_left
    focus
      have h0' : s.isEmpty = false := by cases s; simp at h1; rfl
      have h1' : (1 : Int) < (s.length : Int) := by omega
      have h2' : (s.drop (s.length - 2) == [13, 10]) = true := by rw [h2]; rfl
      have b1 : (0 : Int) ≤ (s.length : Int) - 2 := by omega
      have b2 : (s.length : Int) - 2 ≤ (s.length : Int) := by omega
      have b3 : ((s.length : Int) - 2).toNat = s.length - 2 := by omega
      have b4 : s.length - 2 ≤ s.length := by omega
      clear h2 hE hr
      go_wp2_with fail
      refine (stuff_is O HM.out HX.out (by omega)).mono ?_
      clear O
      rintro e w2 ⟨rfl, O⟩
      go_wp2_with fail
    rotate_left
    all_goals
      refine (unstuff_is O HM.out HB.out (by simp; omega)).mono ?_
      clear O HB HX
      rintro e w3 ⟨rfl, O⟩
      go_wp2_with fail
  rotate_right
  focus
    have HX : Hid (stuffV s = ([], 4)) := if_neg hr
    have hn : s ≠ [] ∧ ¬ (1 < s.length ∧ s.drop (s.length - 2) = [13, 10]) := by
      constructor
      · intro h; exact hr (hE.2 (.inl h))
      · intro h; exact hr (hE.2 (.inr h))
    obtain ⟨h0, h1⟩ := hn
    have h0' : s.isEmpty = false := by simpa using h0
    clear hE hr h0
    by_cases h2 : 1 < s.length
    focus
      have h1' : (1 : Int) < (s.length : Int) := by omega
      have h2' : (s.drop (s.length - 2) == [13, 10]) = false := by
        rw [beq_eq_false_iff_ne]
        intro h
        exact h1 ⟨h2, h⟩
      have b1 : (0 : Int) ≤ (s.length : Int) - 2 := by omega
      have b2 : (s.length : Int) - 2 ≤ (s.length : Int) := by omega
      have b3 : ((s.length : Int) - 2).toNat = s.length - 2 := by omega
      have b4 : s.length - 2 ≤ s.length := by omega
      clear h1
      go_wp2_with fail
      refine (stuff_is O HM.out HX.out (by omega)).mono ?_
      clear O
      rintro e w2 ⟨rfl, O⟩
      go_wp2_with fail
    rotate_left
    focus
      have h1' : ¬ (1 : Int) < (s.length : Int) := by omega
      clear h1
      go_wp2_with fail
      refine (stuff_is O HM.out HX.out (by omega)).mono ?_
      clear O
      rintro e w2 ⟨rfl, O⟩
      go_wp2_with fail
    rotate_left
  all_goals
    refine (unstuff_is O HM.out AB.out (by omega)).mono ?_
    clear O
    rintro e w4 ⟨rfl, O⟩
    by_cases hf : f = 0
    · subst hf
      obtain ⟨y, hy, hyt⟩ := GOOD.out rfl
      have Y := Lib.hid hy
      have hyl := stuffV_len a
      rw [hy] at hyl
      dsimp only at hyl
      have hyb : y.length + b.length ≤ 100000 := by omega
      have hyt' : (y ++ b == t) = true := by rw [hyt]; simp
      clear hy hyt
      go_wp2_with fail
      refine (stuff_is O HM.out Y.out (by omega)).mono ?_
      clear O
      rintro e w5 ⟨rfl, O⟩
      go_wp2
      go_ret
      exact ⟨rfl, O.below⟩
    · obtain ⟨rfl, rfl⟩ := BAD.out hf
      have hf' : (f != 0) = true := by simpa using hf
      go_wp2
      go_ret
      exact ⟨rfl, O.below⟩
end Go.Proofs.Ytknellgmdmpabaa
