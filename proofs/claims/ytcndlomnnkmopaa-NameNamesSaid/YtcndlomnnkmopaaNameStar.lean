/- NameStar: the walk. -/
import Derived.Test.YtcndlomnnkmopaaNameE
namespace Go.Proofs.Ytcndlomnnkmopaa
set_option linter.all false
open Go.RowKit Go.Shelf

theorem may_tail {l : List UInt8} (h : may l = true) (hh : has46 l = true) : may (tl46 l) = true := by
  have hc := cut46_eq l
  rw [hh] at hc
  simp only [if_true] at hc
  unfold may at h ⊢
  simp only [Bool.and_eq_true, decide_eq_true_eq, Bool.not_eq_true'] at h ⊢
  obtain ⟨⟨h1, h2⟩, h3⟩ := h
  refine ⟨⟨Nat.le_trans (tl46_le l) h1, ?_⟩, ?_⟩
  · rw [hc] at h2; simp at h2; simpa using h2.2
  · have e : (cut46 l).getLast (cut46_ne l) = (cut46 (tl46 l)).getLast (cut46_ne _) := by
      have : (hd46 l :: cut46 (tl46 l)).getLast (by simp) = (cut46 (tl46 l)).getLast (cut46_ne _) := List.getLast_cons (cut46_ne _)
      rw [← this]
      congr 1
    rw [← e]; exact h3
theorem lab_42 : lab 42 = false := by decide
theorem may_star {l : List UInt8} (h : may l = true) : Lib.hasPrefix l [42, 46] = false := by
  cases hp : Lib.hasPrefix l [42, 46] with
  | false => rfl
  | true =>
    exfalso
    unfold Lib.hasPrefix at hp
    obtain ⟨t, rfl⟩ := List.isPrefixOf_iff_prefix.1 hp
    have hc : cut46 ([42, 46] ++ t) = [42] :: cut46 t := cut46_dot (a := [42]) (by decide) t
    unfold may at h
    simp only [Bool.and_eq_true] at h
    have h2 := h.1.2
    rw [hc] at h2
    simp only [Bool.and_eq_true, List.all_cons] at h2
    have := h2.1
    unfold labelOk at this
    simp [lab_42] at this
theorem trim_no {l p : List UInt8} (h : Lib.hasPrefix l p = false) : Lib.trimPrefix l p = l := by unfold Lib.trimPrefix; rw [h]; rfl
theorem trim_yes (t : List UInt8) : Lib.trimPrefix (42 :: 46 :: t) [42, 46] = t ∧ Lib.hasPrefix (42 :: 46 :: t) [42, 46] = true := by
  have h : Lib.hasPrefix (42 :: 46 :: t) [42, 46] = true := by unfold Lib.hasPrefix; simp [List.isPrefixOf]
  exact ⟨by unfold Lib.trimPrefix; rw [h]; rfl, h⟩
theorem match_self (s : List UInt8) : matches' s s = may s := by
  unfold matches'
  cases h : may s
  · simp
  · have hp := may_star h
    rw [hp]; unfold pat; rw [trim_no hp, h]; simp
theorem match_starred (r s : List UInt8) : matches' (42 :: 46 :: r) s = (may r && may s && (has46 s && decide (tl46 s = r))) := by
  unfold matches' pat
  rw [(trim_yes r).1, (trim_yes r).2]; rfl
theorem match_plain {p : List UInt8} (h : Lib.hasPrefix p [42, 46] = false) (s : List UInt8) : matches' p s = (may s && decide (p = s)) := by
  unfold matches' pat
  rw [trim_no h, h]
  by_cases e : p = s
  · subst e; simp
  · simp [e]
def isP (s : List UInt8) : Bool := has46 s && may s
theorem star_up {s : List UInt8} (h : isP s = true) : matches' (42 :: 46 :: tl46 s) s = true := by
  unfold isP at h
  simp only [Bool.and_eq_true] at h
  rw [match_starred, may_tail h.2 h.1, h.1, h.2]; simp
theorem star_self (s : List UInt8) : matches' (42 :: 46 :: s) s = false := by
  rw [match_starred]
  cases h : has46 s
  · simp
  · have := tl46_len h
    have : ¬ tl46 s = s := by intro e; rw [e] at this; omega
    simp [this]
theorem not_both {p s : List UInt8} (h1 : matches' p s = true) (h2 : isP s = true) : matches' p (tl46 s) = false := by
  have hh : has46 s = true := by unfold isP at h2; simp only [Bool.and_eq_true] at h2; exact h2.1
  have hlen := tl46_len hh
  cases hp : Lib.hasPrefix p [42, 46]
  · rw [match_plain hp] at h1 ⊢
    simp only [Bool.and_eq_true, decide_eq_true_eq] at h1
    have : ¬ p = tl46 s := by intro e; rw [← e, h1.2] at hlen; omega
    simp [this]
  · unfold Lib.hasPrefix at hp
    obtain ⟨t, rfl⟩ := List.isPrefixOf_iff_prefix.1 hp
    rw [show [42, 46] ++ t = 42 :: 46 :: t from rfl, match_starred] at h1 ⊢
    simp only [Bool.and_eq_true, decide_eq_true_eq] at h1
    rw [h1.2.2]
    cases h : has46 t
    · simp
    · have := tl46_len h
      have : ¬ tl46 t = t := by intro e; rw [e] at this; omega
      simp [this]
theorem star_is {r s : List UInt8} : matches' (42 :: 46 :: r) s = (isP s && decide (r = tl46 s)) := by
  rw [match_starred]
  unfold isP
  cases h1 : has46 s
  · simp
  · cases h2 : may s
    · simp
    · by_cases e : r = tl46 s
      · subst e; simp [may_tail h2 h1]
      · have : ¬ tl46 s = r := fun h => e h.symm
        simp [e, this]

set_option maxRecDepth 100000 in
set_option maxHeartbeats 2000000 in
theorem nameStar_walk (p : List UInt8) (hp : p.length ≤ 140737488351232) (s : List UInt8) (hs : s.length ≤ 140737488351232) (w : World) :
    Calls Try.prog 4 #[.string ⟨p.toArray⟩, .string ⟨s.toArray⟩] w fun e w' => e = .returned (.bool true) ∧ Below w.heap.size w w' := by
  have O := Own.start w
  by_cases h5 : 5000 < (p.length : Int) + s.length
  · go_enter Try.func4, Try.ntmps4
    go_wp2_with fail
    refine (awake_any _).mono ?_
    rintro e w2 ⟨rfl, ch2⟩
    go_wp2
    go_ret
    exact ⟨rfl, (O.pure ch2).below⟩
  have lp : p.length ≤ 5000 := by omega
  have hpp : (∃ r, p = 42 :: 46 :: r ∧ r.length ≤ 5000) ∨ (Lib.hasPrefix p [42, 46] = false ∧ ((1 < p.length ∧ (p.take 2 == [42, 46]) = false) ∨ ¬ 1 < p.length)) := by
    cases h : Lib.hasPrefix p [42, 46]
    · right
      refine ⟨rfl, ?_⟩
      by_cases hl : 1 < p.length
      · left
        refine ⟨hl, ?_⟩
        match p, hl with
        | a :: b :: t, _ =>
          unfold Lib.hasPrefix at h
          simp [List.isPrefixOf] at h ⊢
          intro e; subst e
          intro e; exact h rfl e.symm
      · exact .inr hl
    · left
      unfold Lib.hasPrefix at h
      obtain ⟨t, rfl⟩ := List.isPrefixOf_iff_prefix.1 h
      exact ⟨t, rfl, by simp at lp; omega⟩
  have ls : s.length ≤ 5000 := by omega
  go_enter Try.func4, Try.ntmps4
  go_wp2_with fail
  refine (awake_any _).mono ?_
  rintro e w2 ⟨rfl, ch2⟩
  replace O := O.pure ch2; clear ch2
  go_wp2_with fail
  refine (parent_any s _ (by omega)).mono ?_
  rw [show parentV s = if isP s then .tuple #[.string ⟨(tl46 s).toArray⟩, .bool true] else .tuple #[.string ⟨#[]⟩, .bool false] from rfl]
  have lt := tl46_le s
  cases hi : isP s
  all_goals
    simp only [Bool.false_eq_true, if_false, if_true]
    rintro e w3 ⟨rfl, ch3⟩
    replace O := O.pure ch3; clear ch3
    cases m1 : matches' p s
  all_goals
    have HI := Lib.hid hi
    have M1 := Lib.hid m1
    clear hi m1
    go_wp2_with fail
    refine (match_any p s _ (by omega) (by omega) _ M1.out).mono ?_
    rintro e w4 ⟨rfl, ch4⟩
    replace O := O.pure ch4; clear ch4
    go_wp2_with fail
  focus skip
  all_goals first
    | (refine (match_any p (tl46 s) _ (by omega) (by omega) _ (not_both M1.out HI.out)).mono ?_
       rintro e w5 ⟨rfl, ch5⟩
       replace O := O.pure ch5; clear ch5
       go_wp2_with fail)
    | skip
  all_goals
    cases ms : may s
  all_goals
    have MS := Lib.hid ms; clear ms
    refine (may_is MS.out _ (by omega)).mono ?_
    rintro e w6 ⟨rfl, ch6⟩
    replace O := O.pure ch6; clear ch6
    go_wp2_with fail
    refine (match_any s s _ (by omega) (by omega) _ ((match_self s).trans MS.out)).mono ?_
    rintro e w7 ⟨rfl, ch7⟩
    replace O := O.pure ch7; clear ch7
    go_wp2_with fail
  all_goals first
    | (refine (match_any (42 :: 46 :: tl46 s) s _ (by simp; omega) (by omega) _ (star_up HI.out)).mono ?_
       rintro e w8 ⟨rfl, ch8⟩
       replace O := O.pure ch8; clear ch8
       go_wp2_with fail)
    | skip
  all_goals
    refine (match_any (42 :: 46 :: s) s _ (by simp; omega) (by omega) _ (star_self s)).mono ?_
    rintro e w9 ⟨rfl, ch9⟩
    replace O := O.pure ch9; clear ch9
    rcases hpp with ⟨r, rfl, hr⟩ | ⟨hpf, ⟨hq1, hq2⟩ | hq⟩
  all_goals go_wp2_with fail
  all_goals
    refine (match_any _ s _ (by first | omega | (simp; omega)) (by omega) _ M1.out).mono ?_
    rintro e w10 ⟨rfl, ch10⟩
    replace O := O.pure ch10; clear ch10
  all_goals first
    | (have FS := (star_is (r := r) (s := s)).symm.trans M1.out
       rw [HI.out, show decide (r = tl46 s) = (r == tl46 s) from by rw [Bool.eq_iff_iff]; simp] at FS
       simp only [Bool.true_and, Bool.false_and] at FS
       first
       | exact absurd FS (by decide)
       | (go_wp2_with fail
          go_ret
          exact ⟨rfl, O.below⟩))
    | (have FS := (match_plain hpf s).symm.trans M1.out
       rw [MS.out, show decide (p = s) = (p == s) from by rw [Bool.eq_iff_iff]; simp] at FS
       simp only [Bool.true_and, Bool.false_and] at FS
       first
       | exact absurd FS (by decide)
       | (go_wp2_with fail
          refine (may_is MS.out _ (by omega)).mono ?_
          rintro e w11 ⟨rfl, ch11⟩
          replace O := O.pure ch11; clear ch11
          go_wp2_with fail
          go_ret
          exact ⟨rfl, O.below⟩))
    | go_goals
end Go.Proofs.Ytcndlomnnkmopaa
