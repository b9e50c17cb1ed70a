/- NameFolds: the walk. -/
import Derived.Test.YtcndlomnnkmopaaNameF
namespace Go.Proofs.Ytcndlomnnkmopaa
set_option linter.all false
open Go.RowKit Go.Shelf

theorem low_46 (c : UInt8) : low c = 46 ↔ c = 46 := by
  rw [← UInt8.toNat_inj, ← UInt8.toNat_inj, low_toNat]
  show _ = 46 ↔ _ = 46
  split <;> omega
theorem mem_cut46 {l : List UInt8} {c : UInt8} (h : c ∈ l) : c = 46 ∨ ∃ p ∈ cut46 l, c ∈ p := by
  induction l with
  | nil => simp at h
  | cons d t ih =>
    unfold cut46
    by_cases e : d = 46
    · rw [if_pos e]
      rcases List.mem_cons.1 h with rfl | h
      · exact .inl e
      · rcases ih h with h | ⟨p, hp, hc⟩
        · exact .inl h
        · exact .inr ⟨p, List.mem_cons_of_mem _ hp, hc⟩
    · rw [if_neg e]
      cases hq : cut46 t with
      | nil => exact absurd hq (cut46_ne t)
      | cons a r =>
        rcases List.mem_cons.1 h with rfl | h
        · exact .inr ⟨c :: a, by simp, by simp⟩
        · rcases ih h with h | ⟨p, hp, hc⟩
          · exact .inl h
          · right
            rw [hq] at hp
            rcases List.mem_cons.1 hp with rfl | hp
            · exact ⟨d :: p, by simp, by simp [hc]⟩
            · exact ⟨p, by simp [hp], hc⟩
theorem cut46_snoc (l : List UInt8) : cut46 (l ++ [46]) = cut46 l ++ [[]] := by
  induction l with
  | nil => rfl
  | cons d t ih =>
    rw [List.cons_append, cut46, cut46, ih]
    by_cases e : d = 46
    · rw [if_pos e, if_pos e]; rfl
    · rw [if_neg e, if_neg e]
      cases hq : cut46 t with
      | nil => exact absurd hq (cut46_ne t)
      | cons a r => rfl
theorem lab_low {c : UInt8} (h : lab c = true) : low c = c := by
  unfold low; rw [if_neg]
  unfold lab at h
  simp only [Bool.or_eq_true, decide_eq_true_eq] at h
  omega
theorem may_all {l : List UInt8} (h : may l = true) : ∀ p ∈ cut46 l, labelOk p = true := by
  unfold may at h
  simp only [Bool.and_eq_true, List.all_eq_true] at h
  exact h.1.2
theorem may_low {l : List UInt8} (h : may l = true) : l.map low = l := by
  refine (List.map_congr_left (g := id) fun c hc => ?_).trans (by simp)
  rcases mem_cut46 hc with rfl | ⟨p, hp, hc⟩
  · decide
  · have := may_all h p hp
    unfold labelOk at this
    simp only [Bool.and_eq_true, List.all_eq_true] at this
    exact lab_low (this.2 c hc)
theorem trim46_dot (l : List UInt8) : Lib.trimSuffix (l ++ [46]) [46] = l := by
  unfold Lib.trimSuffix Lib.hasSuffix
  rw [if_pos (by rw [List.isSuffixOf_iff_suffix]; exact List.suffix_append _ _)]
  simp
theorem trim46_no {l : List UInt8} (h : ∀ t, l ≠ t ++ [46]) : Lib.trimSuffix l [46] = l := by
  unfold Lib.trimSuffix Lib.hasSuffix
  rw [if_neg (by rw [List.isSuffixOf_iff_suffix]; rintro ⟨t, rfl⟩; exact h t rfl)]
theorem may_nodot {l : List UInt8} (h : may l = true) : Lib.trimSuffix l [46] = l := by
  apply trim46_no
  rintro t rfl
  have := may_all h [] (by rw [cut46_snoc]; simp)
  simp [labelOk] at this
theorem folded_eq (l : List UInt8) : folded l = Lib.trimSuffix (l.map low) [46] := by
  unfold folded
  by_cases h : ∃ t, l = t ++ [46]
  · obtain ⟨t, rfl⟩ := h
    rw [trim46_dot, List.map_append, show List.map low [46] = [46] from by decide, trim46_dot]
  · rw [trim46_no (fun t e => h ⟨t, e⟩), trim46_no]
    intro t e
    apply h
    have hne : l ≠ [] := by rintro rfl; simp at e
    refine ⟨l.dropLast, ?_⟩
    have h1 := List.dropLast_concat_getLast hne
    have h2 : (l.map low).getLast (by simpa using hne) = 46 := by simp only [e]; simp
    rw [List.getLast_map, low_46] at h2
    rw [h2] at h1; exact h1.symm
theorem gr_low (l : List UInt8) (ws : List Bool) : (gr l ws).map low = l.map low := by
  apply List.ext_getElem
  · simp [gr_len]
  · intro j h1 h2; simp [gr, low_up]
theorem folded_gr (l : List UInt8) (ws : List Bool) : folded (gr l ws) = folded l := by rw [folded_eq, folded_eq, gr_low]
theorem folded_may {l : List UInt8} (h : may l = true) : folded l = l := by rw [folded_eq, may_low h, may_nodot h]
theorem folded_grdot {l : List UInt8} (h : may l = true) (ws : List Bool) : folded (gr l ws ++ [46]) = l := by
  unfold folded; rw [trim46_dot, gr_low, may_low h]
theorem foldV_no {l : List UInt8} (h : may (folded l) = false) : foldV l = .tuple #[.string ⟨#[]⟩, .int .i64 4] := by unfold foldV; rw [h]; rfl
theorem foldV_yes {l f : List UInt8} (h : may f = true) (e : folded l = f) : foldV l = .tuple #[.string ⟨f.toArray⟩, .int .i64 0] := by unfold foldV; rw [e, h]; rfl
theorem fold_is {l : List UInt8} {v : Value} (hv : foldV l = v) (w : World) (hl : l.length ≤ 1000000000) :
    Calls Try.prog 11 #[.string ⟨l.toArray⟩] w fun e w' => e = .returned v ∧ Chg [] w w' := by rw [← hv]; exact fold_any l w hl
theorem folded_le (l : List UInt8) : (folded l).length ≤ l.length := by unfold folded; rw [List.length_map]; exact trimSuffix_le l [46]

set_option maxRecDepth 100000 in
set_option maxHeartbeats 1000000 in
theorem nameFolds_walk (s : List UInt8) (hs : s.length ≤ 140737488351232) (v : Value) (ws : List Bool) (G : List Nat) (w : World) (hv : BoolsR w v ws G) :
    Calls Try.prog 3 #[.string ⟨s.toArray⟩, v] w fun e w' => e = .returned (.bool true) ∧ Below w.heap.size w w' := by
  have O := Own.start w
  have HV := Lib.hid hv
  obtain ⟨a, cap, rfl, -⟩ := hv
  by_cases h5 : 5000 < (s.length : Int)
  · go_enter Try.func3, Try.ntmps3
    go_wp2_with fail
    refine (awake_any _).mono ?_
    rintro e w2 ⟨rfl, ch2⟩
    go_wp2
    go_ret
    exact ⟨rfl, (O.pure ch2).below⟩
  have ls : s.length ≤ 5000 := by omega
  have lf := folded_le s
  have lg := gr_len s ws
  have hcase : ∃ b, may (folded s) = b ∧ ∃ c, may s = c ∧ (c = true → folded s = s ∧ b = true) := ⟨_, rfl, _, rfl, fun h => by rw [folded_may h]; exact ⟨rfl, h⟩⟩
  obtain ⟨b, hb, c, hc, hbc⟩ := hcase
  go_enter Try.func3, Try.ntmps3
  go_wp2_with fail
  refine (awake_any _).mono ?_
  rintro e w2 ⟨rfl, ch2⟩
  replace O := O.pure ch2; clear ch2
  go_wp2_with fail
  cases b
  · cases c
    · have C1 := Lib.hid hc; have B1 := Lib.hid hb
      clear hc hb hbc
      refine (fold_is (foldV_no B1.out) _ (by omega)).mono ?_
      rintro e w3 ⟨rfl, ch3⟩
      replace O := O.pure ch3; clear ch3
      go_wp2_with fail
      refine (may_is C1.out _ (by omega)).mono ?_
      rintro e w4 ⟨rfl, ch4⟩
      replace O := O.pure ch4; clear ch4
      go_wp2_with fail
      refine (great_any s ws _ G _ (HV.out.keep O.chg (by simp)) (by omega)).mono ?_
      rintro e w5 ⟨rfl, ch5⟩
      replace O := O.pure ch5; clear ch5
      go_wp2_with fail
      refine (fold_is (foldV_no (by rw [folded_gr]; exact B1.out)) _ (by omega)).mono ?_
      rintro e w6 ⟨rfl, ch6⟩
      replace O := O.pure ch6; clear ch6
      go_wp2
      go_ret
      exact ⟨rfl, O.below⟩
    · exact absurd (hbc rfl).2 (by simp)
  · obtain ⟨f, hf⟩ : ∃ f, f = folded s := ⟨_, rfl⟩
    have lgf := gr_len f ws
    rw [← hf] at hb lf hbc
    have C1 := Lib.hid hc; have B1 := Lib.hid hb; have F1 := Lib.hid hf
    clear hc hb hf
    refine (fold_is (foldV_yes B1.out F1.out.symm) _ (by omega)).mono ?_
    rintro e w3 ⟨rfl, ch3⟩
    replace O := O.pure ch3; clear ch3
    go_wp2_with fail
    refine (may_is C1.out _ (by omega)).mono ?_
    rintro e w4 ⟨rfl, ch4⟩
    replace O := O.pure ch4; clear ch4
    have hfs : c = true → f = s := fun h => (hbc h).1
    clear hbc
    cases c
    focus
      clear hfs
      go_wp2_with fail
    rotate_left
    focus
      have e1 : (f != s) = false := by rw [hfs rfl]; simp
      have e2 : (f == s) = true := by rw [hfs rfl]; simp
      clear hfs
      go_wp2_with fail
    all_goals
      refine (great_any s ws _ G _ (HV.out.keep O.chg (by simp)) (by omega)).mono ?_
      rintro e w5 ⟨rfl, ch5⟩
      replace O := O.pure ch5; clear ch5
      go_wp2_with fail
      refine (fold_is (foldV_yes B1.out ((folded_gr s ws).trans F1.out.symm)) _ (by omega)).mono ?_
      rintro e w6 ⟨rfl, ch6⟩
      replace O := O.pure ch6; clear ch6
      go_wp2_with fail
      refine (fold_is (foldV_yes B1.out (folded_may B1.out)) _ (by omega)).mono ?_
      rintro e w7 ⟨rfl, ch7⟩
      replace O := O.pure ch7; clear ch7
      go_wp2_with fail
      refine (great_any f ws _ G _ (HV.out.keep O.chg (by simp)) (by omega)).mono ?_
      rintro e w8 ⟨rfl, ch8⟩
      replace O := O.pure ch8; clear ch8
      go_wp2_with fail
      refine (fold_is (foldV_yes B1.out (folded_grdot B1.out ws)) _ (by simp; omega)).mono ?_
      rintro e w9 ⟨rfl, ch9⟩
      replace O := O.pure ch9; clear ch9
      go_wp2_with fail
      refine (may_is B1.out _ (by omega)).mono ?_
      rintro e w10 ⟨rfl, ch10⟩
      replace O := O.pure ch10; clear ch10
      go_wp2
      go_ret
      exact ⟨rfl, O.below⟩
end Go.Proofs.Ytcndlomnnkmopaa
