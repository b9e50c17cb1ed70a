/- StuffLong: the walk. -/
import Derived.Test.YtknellgmdmpabaaStuffParts
namespace Go.Proofs.Ytknellgmdmpabaa
set_option linter.all false
open Go.RowKit Go.Shelf

theorem uint_mod (z : Int) (n : Nat) (h : 0 < n) (hn : n ≤ 100000000) : ∃ t : Nat, t < n ∧ wrap64 ((IntKind.u64.wrap z).tmod (n : Int)) = (t : Int) := by
  have hu : 0 ≤ IntKind.u64.wrap z := by rw [IntKind.wrap_u64]; omega
  rw [Int.tmod_eq_emod_of_nonneg hu]
  have h1 := Int.emod_nonneg (IntKind.u64.wrap z) (b := (n : Int)) (by omega)
  have h2 := Int.emod_lt_of_pos (IntKind.u64.wrap z) (b := (n : Int)) (by omega)
  generalize IntKind.u64.wrap z % (n : Int) = r at h1 h2
  refine ⟨r.toNat, by omega, ?_⟩
  rw [IntWalk.wrap64_in r (by omega)]
  omega
theorem joinL_dots_len : ∀ ls : List (List UInt8), (joinL (ls.map dot)).length = (joinL ls).length + ls.countP hp
  | [] => rfl
  | a :: ls => by
    have ih := joinL_dots_len ls
    have e1 : (joinL (dot a :: ls.map dot)).length = (dot a).length + 2 + (joinL (ls.map dot)).length := by simp [joinL, crlf]; omega
    have e2 : (joinL (a :: ls)).length = a.length + 2 + (joinL ls).length := by simp [joinL, crlf]; omega
    rw [List.map_cons, e1, e2, List.countP_cons, ih]
    unfold dot
    split <;> simp <;> omega
theorem stuff_long {s x : List UInt8} (h : stuffV s = (x, 0)) : x.length = s.length + dotsN (linesB s) + 3 ∧ wholeB (linesB x) = true ∧ (∀ k, k < x.length → wholeB (linesB (x.take k)) = false) ∧ 3 ≤ x.length := by
  have h1 : (cutL s).2 = [] := by
    by_cases hr : (cutL s).2 = []
    · exact hr
    · rw [stuffV, if_neg hr] at h; simp at h
  have hx : x = joinL ((cutL s).1.map dot ++ [[46]]) := by
    rw [stuffV, if_pos h1] at h
    simp only [Prod.mk.injEq, and_true] at h
    exact h.symm
  have hl : x.length = s.length + dotsN (linesB s) + 3 := by
    have hj := congrArg List.length (cutL_join s).1
    rw [h1, List.append_nil] at hj
    rw [hx, joinL_app, List.length_append, joinL_dots_len, hj, show (joinL [[46]]).length = 3 from rfl]
    congr 2
    unfold dotsN linesB
    rw [h1]
    simp [List.countP_map]
    rfl
  have hc : cutL x = ((cutL s).1.map dot ++ [[46]], []) := by
    have := stuffed_cut (s := s) (t := [])
    rw [List.append_nil] at this
    rw [hx, this]
    simp [cutL]
  refine ⟨hl, ?_, fun k hk => ?_, by omega⟩
  · unfold wholeB linesB
    rw [hc]
    simp
  · cases hw : wholeB (linesB (x.take k)) with
    | false => rfl
    | true =>
      exfalso
      -- the lines of a beginning are a beginning of the lines
      have ha := cutL_app (x.take k) (x.drop k)
      rw [List.take_append_drop, hc] at ha
      simp only [Prod.mk.injEq] at ha
      obtain ⟨y, hy, hb⟩ := List.any_eq_true.1 hw
      simp only [Bool.and_eq_true, beq_iff_eq] at hb
      have hy2 : y.1 ∈ (cutL (x.take k)).1 := by
        unfold linesB at hy
        rcases List.mem_append.1 hy with hy | hy
        · obtain ⟨z, hz, rfl⟩ := List.mem_map.1 hy
          exact hz
        · split at hy
          · cases hy
          · simp at hy
            rw [hy] at hb
            simp at hb
      rw [hb.2] at hy2
      obtain ⟨q1, q2, hq⟩ := List.append_of_mem hy2
      rw [hq] at ha
      have ha1 := ha.1
      rw [List.append_assoc] at ha1
      -- the dot stands behind all the others
      have hlen : q1.length = ((cutL s).1.map dot).length := by
        rcases Nat.lt_trichotomy q1.length ((cutL s).1.map dot).length with hlt | heq | hgt
        · exfalso
          have e1 : ((cutL s).1.map dot ++ [[46]])[q1.length]? = some (dot ((cutL s).1[q1.length]'(by simpa using hlt))) := by
            rw [List.getElem?_append_left hlt]
            simp at hlt
            simp [hlt]
          rw [ha1, List.getElem?_append_right (Nat.le_refl _), Nat.sub_self] at e1
          simp at e1
          exact dot_ne _ e1.symm
        · exact heq
        · exfalso
          have := congrArg List.length ha1
          simp at this hgt
          omega
      have hle := congrArg List.length ha1
      simp at hle hlen
      have hq2 : q2 = [] := List.eq_nil_of_length_eq_zero (by omega)
      have he : q1 ++ [[46]] = (cutL s).1.map dot ++ [[46]] := by
        rw [ha1, hq2]
        have : (cutL ((cutL (x.take k)).2 ++ x.drop k)).1 = [] := List.eq_nil_of_length_eq_zero (by omega)
        rw [this]
        simp
      have hj := congrArg List.length (cutL_join (x.take k)).1
      rw [hq, hq2, he, ← hx, List.length_append] at hj
      simp at hj
      omega

set_option maxRecDepth 100000 in
set_option maxHeartbeats 4000000 in
theorem stuffLong_walk (w : World) (m : Int) (hm : w.cell? ⟨0, 0, none⟩ = some (.int .i64 m)) (s : List UInt8) (hs : s.length ≤ 1048576) (at' : Int) (hat : (Lit.int IntKind.i64 at').wf = true) :
    Calls Try.prog 7 #[.string ⟨s.toArray⟩, .int .i64 at'] w fun e w' => e = .returned (.bool true) ∧ Below w.heap.size w w' := by
  have HM := Lib.hid hm; clear hm
  have O := Own.start w
  go_enter Try.func7, Try.ntmps7
  have hsl := stuffV_len s
  obtain ⟨⟨x, er⟩, ha⟩ : ∃ r, stuffV s = r := ⟨_, rfl⟩
  rw [ha] at hsl
  dsimp only at hsl
  have A := Lib.hid ha; clear ha
  go_wp2_with fail
  refine (stuff_is O HM.out A.out (by omega)).mono ?_
  clear O
  rintro e1 w1 ⟨rfl, O⟩
  go_wp2_with fail
  refine (works_any _ m (O.chg.cell HM.out (by simp))).mono ?_
  rintro e w2 ⟨rfl, ch⟩
  replace O := O.pure ch; clear ch
  by_cases hl1 : 4000 < (s.length : Int)
  · go_wp2_with fail
    refine (works_any _ m (O.chg.cell HM.out (by simp))).mono ?_
    rintro e w1 ⟨rfl, ch⟩
    replace O := O.pure ch; clear ch
    go_wp2
    go_ret
    exact ⟨rfl, O.below⟩
  have hl1' : ¬ 4000 < (s.length : Int) := hl1
  by_cases he : er = 0
  rotate_left
  · have he' : (er != 0) = true := by simpa using he
    go_wp2_with fail
    refine (works_any _ m (O.chg.cell HM.out (by simp))).mono ?_
    rintro e w1 ⟨rfl, ch⟩
    replace O := O.pure ch; clear ch
    go_wp2
    go_ret
    exact ⟨rfl, O.below⟩
  subst he
  obtain ⟨x1, x2, x3, x4⟩ := stuff_long A.out
  obtain ⟨k, hk1, hk2⟩ := uint_mod at' x.length (by omega) (by omega)
  have hdn : dotsN (linesB s) ≤ 100000 := by omega
  obtain ⟨n1, hn1⟩ : ∃ n, dotsN (linesB s) = n := ⟨_, rfl⟩
  rw [hn1] at x1 hdn
  have N1 := Lib.hid hn1
  have X2 := Lib.hid x2
  have P1 := Lib.hid (x3 k hk1); have P2 := Lib.hid (x3 (x.length - 1) (by omega))
  have i1 : ((x.length : Int) == (s.length : Int) + (n1 : Int) + 3) = true := by simp; omega
  have hxb : x.length ≤ 100000 := by omega
  have b1 : (0 : Int) ≤ (x.length : Int) - 1 := by omega
  have b2 : (x.length : Int) - 1 ≤ (x.length : Int) := by omega
  have b3 : ((x.length : Int) - 1).toNat = x.length - 1 := by omega
  have b4 : x.length - 1 ≤ x.length := by omega
  have b5 : (k : Int) ≤ (x.length : Int) := by omega
  have b6 : (x.length : Int) ≠ 0 := by omega
  have b7 : (0 : Int) < (x.length : Int) := by omega
  have b8 : IntKind.u64.wrap (x.length : Int) = (x.length : Int) := IntWalk.u64_in _ (by omega)
  clear hn1 x2 x3 x1
  go_wp2_with fail
  rw [hk2]
  clear hk2
  refine (dots_is O HM.out N1.out (by omega)).mono ?_
  clear O
  rintro e1 w3 ⟨rfl, O⟩
  go_wp2_with fail
  refine (whole_is O HM.out X2.out (by omega)).mono ?_
  clear O
  rintro e1 w3 ⟨rfl, O⟩
  go_wp2_with fail
  refine (whole_is O HM.out P1.out (by simp; omega)).mono ?_
  clear O
  rintro e1 w3 ⟨rfl, O⟩
  go_wp2_with fail
  refine (whole_is O HM.out P2.out (by simp; omega)).mono ?_
  clear O
  rintro e1 w3 ⟨rfl, O⟩
  go_wp2
  go_ret
  exact ⟨rfl, O.below⟩
end Go.Proofs.Ytknellgmdmpabaa
