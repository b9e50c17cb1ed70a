/- mailroomref03: bare, Pattern, Match, Compare, Under. -/
import Derived.Test.YtcndlomnnkmopaaNameI
namespace Go.Proofs.Ytcndlomnnkmopaa
set_option linter.all false
open Go.RowKit Go.Shelf

theorem star_cases (p : List UInt8) : (∃ r, p = 42 :: 46 :: r) ∨ (Lib.hasPrefix p [42, 46] = false ∧ ((1 < p.length ∧ (p.take 2 == [42, 46]) = false) ∨ ¬ 1 < p.length)) := by
  cases h : Lib.hasPrefix p [42, 46]
  · right
    refine ⟨rfl, ?_⟩
    by_cases hl : 1 < p.length
    · left
      refine ⟨hl, ?_⟩
      match p, hl with
      | a :: b :: t, _ =>
        unfold Lib.hasPrefix at h
        simp [List.isPrefixOf] at h ⊢
        intro e; subst e
        intro e; exact h rfl e.symm
    · exact .inr hl
  · left
    unfold Lib.hasPrefix at h
    obtain ⟨t, rfl⟩ := List.isPrefixOf_iff_prefix.1 h
    exact ⟨t, rfl⟩
theorem bare_star (r : List UInt8) (w : World) (hl : r.length ≤ 100000000) : Calls Try.prog 36 #[.string ⟨(42 :: 46 :: r).toArray⟩] w fun e w' => e = .returned (.tuple #[.string ⟨r.toArray⟩, .bool true]) ∧ Chg [] w w' := by
  go_enter Try.func36, Try.ntmps36
  go_wp2
  go_ret2
  exact ⟨rfl, Chg.refl _ _⟩
theorem bare_not (p : List UInt8) (w : World) (hp : (1 < p.length ∧ (p.take 2 == [42, 46]) = false) ∨ ¬ 1 < p.length) : Calls Try.prog 36 #[.string ⟨p.toArray⟩] w fun e w' => e = .returned (.tuple #[.string ⟨p.toArray⟩, .bool false]) ∧ Chg [] w w' := by
  rcases hp with ⟨h1, h2⟩ | h1
  · have h1' : decide ((1 : Int) < (p.length : Int)) = true := by simp; omega
    have h3 : (2 : Int) ≤ (p.length : Int) := by omega
    go_enter Try.func36, Try.ntmps36
    go_wp2
    go_ret2
    exact ⟨rfl, Chg.refl _ _⟩
  · have h1' : decide ((1 : Int) < (p.length : Int)) = false := by simp; omega
    go_enter Try.func36, Try.ntmps36
    go_wp2
    go_ret2
    exact ⟨rfl, Chg.refl _ _⟩
theorem pat_star (r : List UInt8) : pat (42 :: 46 :: r) = may r := by
  unfold pat Lib.trimPrefix Lib.hasPrefix; simp [List.isPrefixOf]
theorem pat_not {p : List UInt8} (h : Lib.hasPrefix p [42, 46] = false) : pat p = may p := by
  unfold pat Lib.trimPrefix; rw [h]; rfl
theorem pattern3_any (p : List UInt8) (w : World) (hl : p.length ≤ 1000000) (b : Bool) (hb : pat p = b) :
    Calls Try.prog 19 #[.string ⟨p.toArray⟩] w fun e w' => e = .returned (.bool b) ∧ Chg [] w w' := by
  rcases star_cases p with ⟨r, rfl⟩ | ⟨hp, hc⟩
  · rw [pat_star] at hb
    have HB := Lib.hid hb; clear hb
    simp only [List.length_cons] at hl
    go_enter Try.func19, Try.ntmps19
    go_wp2_with fail
    refine (bare_star r _ (by omega)).mono ?_
    rintro e w1 ⟨rfl, ch⟩
    go_wp2_with fail
    refine (may3_any r _ (by omega) _ HB.out).mono ?_
    rintro e w2 ⟨rfl, ch2⟩
    go_wp2
    go_ret
    exact ⟨rfl, ch.pure ch2⟩
  · rw [pat_not hp] at hb
    have HB := Lib.hid hb; clear hb
    go_enter Try.func19, Try.ntmps19
    go_wp2_with fail
    refine (bare_not p _ hc).mono ?_
    rintro e w1 ⟨rfl, ch⟩
    go_wp2_with fail
    refine (may3_any p _ (by omega) _ HB.out).mono ?_
    rintro e w2 ⟨rfl, ch2⟩
    go_wp2
    go_ret
    exact ⟨rfl, ch.pure ch2⟩
theorem match_st (r s : List UInt8) : matches' (42 :: 46 :: r) s = (may r && may s && (has46 s && decide (tl46 s = r))) := by
  have h : Lib.hasPrefix (42 :: 46 :: r) [42, 46] = true := by unfold Lib.hasPrefix; simp [List.isPrefixOf]
  have h2 : Lib.trimPrefix (42 :: 46 :: r) [42, 46] = r := by unfold Lib.trimPrefix; rw [h]; rfl
  unfold matches'; rw [pat_star, h, h2]; rfl
theorem match_pl {p : List UInt8} (h : Lib.hasPrefix p [42, 46] = false) (s : List UInt8) : matches' p s = (may p && may s && decide (p = s)) := by
  unfold matches'
  rw [pat_not h, h]; rfl
set_option maxHeartbeats 1000000 in
theorem match3_any (p l : List UInt8) (w : World) (hp : p.length ≤ 1000000) (hl : l.length ≤ 1000000) (b : Bool) (hb : matches' p l = b) :
    Calls Try.prog 20 #[.string ⟨p.toArray⟩, .string ⟨l.toArray⟩] w fun e w' => e = .returned (.bool b) ∧ Chg [] w w' := by
  rcases star_cases p with ⟨r, rfl⟩ | ⟨hpf, hc⟩
  · rw [match_st] at hb
    simp only [List.length_cons] at hp
    have HB := Lib.hid hb; clear hb
    go_enter Try.func20, Try.ntmps20
    go_wp2_with fail
    refine (bare_star r _ (by omega)).mono ?_
    rintro e w1 ⟨rfl, ch⟩
    cases h1 : may r
    · have E : b = false := by rw [← HB.out, h1]; rfl
      subst E
      have H1 := Lib.hid h1; clear h1
      go_wp2_with fail
      refine (may3_any r _ (by omega) _ H1.out).mono ?_
      rintro e w2 ⟨rfl, ch2⟩
      go_wp2
      go_ret
      exact ⟨rfl, ch.pure ch2⟩
    have H1 := Lib.hid h1; clear h1
    go_wp2_with fail
    refine (may3_any r _ (by omega) _ H1.out).mono ?_
    rintro e w2 ⟨rfl, ch2⟩
    replace ch := ch.pure ch2; clear ch2
    cases h2 : may l
    · have E : b = false := by rw [← HB.out, h2]; simp
      subst E
      have H2 := Lib.hid h2; clear h2
      go_wp2_with fail
      refine (may3_any l _ (by omega) _ H2.out).mono ?_
      rintro e w2 ⟨rfl, ch2⟩
      go_wp2
      go_ret
      exact ⟨rfl, ch.pure ch2⟩
    have HPV : Hid (parentV l = if has46 l then .tuple #[.string ⟨(tl46 l).toArray⟩, .bool true] else .tuple #[.string ⟨#[]⟩, .bool false]) := by unfold Hid parentV; rw [h2]; simp
    have H2 := Lib.hid h2; clear h2
    go_wp2_with fail
    refine (may3_any l _ (by omega) _ H2.out).mono ?_
    rintro e w3 ⟨rfl, ch2⟩
    replace ch := ch.pure ch2; clear ch2
    go_wp2_with fail
    refine (parent3_any l _ (by omega)).mono ?_
    rw [HPV.out]
    cases h4 : has46 l
    · rintro e w4 ⟨rfl, ch4⟩
      have E : b = false := by rw [← HB.out, h4]; simp
      subst E
      simp only [Bool.false_eq_true, if_false]
      go_wp2
      go_ret
      exact ⟨rfl, ch.pure ch4⟩
    · rintro e w4 ⟨rfl, ch4⟩
      have E : b = decide (tl46 l = r) := by rw [← HB.out, H1.out, H2.out, h4]; rfl
      have HE := Lib.hid E; clear E
      simp only [if_true]
      go_wp2
      go_ret
      exact ⟨ret_bool (by rw [HE.out, Bool.eq_iff_iff]; simp), ch.pure ch4⟩
  · rw [match_pl hpf] at hb
    have HB := Lib.hid hb; clear hb
    go_enter Try.func20, Try.ntmps20
    go_wp2_with fail
    refine (bare_not p _ hc).mono ?_
    rintro e w1 ⟨rfl, ch⟩
    cases h1 : may p
    · have E : b = false := by rw [← HB.out, h1]; rfl
      subst E
      have H1 := Lib.hid h1; clear h1
      go_wp2_with fail
      refine (may3_any p _ (by omega) _ H1.out).mono ?_
      rintro e w2 ⟨rfl, ch2⟩
      go_wp2
      go_ret
      exact ⟨rfl, ch.pure ch2⟩
    have H1 := Lib.hid h1; clear h1
    go_wp2_with fail
    refine (may3_any p _ (by omega) _ H1.out).mono ?_
    rintro e w2 ⟨rfl, ch2⟩
    replace ch := ch.pure ch2; clear ch2
    cases h2 : may l
    · have E : b = false := by rw [← HB.out, h2]; simp
      subst E
      have H2 := Lib.hid h2; clear h2
      go_wp2_with fail
      refine (may3_any l _ (by omega) _ H2.out).mono ?_
      rintro e w2 ⟨rfl, ch2⟩
      go_wp2
      go_ret
      exact ⟨rfl, ch.pure ch2⟩
    have H2 := Lib.hid h2; clear h2
    have E : b = decide (p = l) := by rw [← HB.out, H1.out, H2.out]; rfl
    have HE := Lib.hid E; clear E
    go_wp2_with fail
    refine (may3_any l _ (by omega) _ H2.out).mono ?_
    rintro e w3 ⟨rfl, ch2⟩
    replace ch := ch.pure ch2; clear ch2
    go_wp2
    go_ret
    exact ⟨ret_bool (by rw [HE.out, Bool.eq_iff_iff]; simp), ch⟩
theorem under3_any (p l : List UInt8) (w : World) (hp : p.length ≤ 1000000) (hl : l.length ≤ 1000000) :
    Calls Try.prog 17 #[.string ⟨p.toArray⟩, .string ⟨l.toArray⟩] w fun e w' => e = .returned (underV p l) ∧ Chg [] w w' := by
  have HV : Hid (underV p l = if may l && decide (p.length + l.length ≤ 253) then .tuple #[.string ⟨(p ++ l).toArray⟩, .bool true] else .tuple #[.string ⟨#[]⟩, .bool false]) := rfl
  go_enter Try.func17, Try.ntmps17
  cases h2 : may l
  · have H2 := Lib.hid h2; clear h2
    go_wp2_with fail
    refine (may3_any l _ (by omega) _ H2.out).mono ?_
    rintro e w2 ⟨rfl, ch2⟩
    go_wp2
    go_ret2
    exact ⟨by rw [HV.out, H2.out]; rfl, ch2⟩
  · have H2 := Lib.hid h2; clear h2
    by_cases h3 : p.length + l.length ≤ 253
    · have h3' : ¬ 253 < (p.length : Int) + (l.length : Int) := by omega
      have h3'' : decide ((253 : Int) < (p.length : Int) + (l.length : Int)) = false := by simp; omega
      go_wp2_with fail
      refine (may3_any l _ (by omega) _ H2.out).mono ?_
      rintro e w2 ⟨rfl, ch2⟩
      go_wp2
      go_ret2
      exact ⟨by rw [HV.out, H2.out, decide_eq_true h3]; rfl, ch2⟩
    · have h3' : 253 < (p.length : Int) + (l.length : Int) := by omega
      have h3'' : decide ((253 : Int) < (p.length : Int) + (l.length : Int)) = true := by simp; omega
      go_wp2_with fail
      refine (may3_any l _ (by omega) _ H2.out).mono ?_
      rintro e w2 ⟨rfl, ch2⟩
      go_wp2
      go_ret2
      exact ⟨by rw [HV.out, H2.out, decide_eq_false h3]; rfl, ch2⟩
end Go.Proofs.Ytcndlomnnkmopaa
