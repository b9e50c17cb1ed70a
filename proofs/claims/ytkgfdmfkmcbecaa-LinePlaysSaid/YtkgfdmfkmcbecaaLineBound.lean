/- LineBound: the walk. -/
import Derived.Test.YtkgfdmfkmcbecaaLineG
namespace Go.Proofs.Ytkgfdmfkmcbecaa
set_option linter.all false
open Go.RowKit Go.Shelf

/-- what is known of what Feed of a new framer tells, beside what Cut does -/
structure Bounded (most : Int) (all ls : List (List UInt8)) (rest : List UInt8) (er : Int) (f' : Fr) : Prop where
  le : ls.length ≤ all.length
  pre : ∀ i (h : i < ls.length) (h' : i < all.length), ls[i] = all[i] ∧ (ls[i].length : Int) + 2 ≤ most
  ok : er = 0 → ls.length = all.length ∧ f'.left = rest ∧ (rest.length : Int) < most ∧ f'.dead = false
  bad : er ≠ 0 → er = 40 ∧ f'.left = [] ∧ f'.dead = true ∧ (∀ h : ls.length < all.length, most < (all[ls.length].length : Int) + 2) ∧ (ls.length = all.length → most ≤ (rest.length : Int))
theorem takeWhile_next {α : Type} (p : α → Bool) : ∀ (l : List α) (h : (l.takeWhile p).length < l.length), p l[(l.takeWhile p).length] = false
  | [], h => by simp at h
  | a :: l, h => by
    by_cases ha : p a = true
    · simp only [List.takeWhile_cons, ha, if_true, List.length_cons] at h ⊢
      exact takeWhile_next p l (by omega)
    · simp at ha
      simp [ha]
theorem takeWhile_get {α : Type} (p : α → Bool) (l : List α) (i : Nat) (h : i < (l.takeWhile p).length) (h' : i < l.length) : (l.takeWhile p)[i] = l[i] ∧ p (l.takeWhile p)[i] = true := by
  obtain ⟨t, ht⟩ := List.takeWhile_prefix p (l := l)
  refine ⟨?_, ?_⟩
  · have : l[i]? = some (l.takeWhile p)[i] := by
      conv => lhs; rw [← ht]
      rw [List.getElem?_append_left h, List.getElem?_eq_getElem h]
    rw [List.getElem?_eq_getElem h'] at this
    exact (Option.some.inj this).symm
  · have := List.all_eq_true.1 (List.all_takeWhile (p := p) (l := l)) _ (List.getElem_mem h)
    exact this
theorem bounded (most : Int) (s : List UInt8) : Bounded most (cutL s).1 (feedL (Fr.zero most) s).1 (cutL s).2 (feedL (Fr.zero most) s).2.1 (feedL (Fr.zero most) s).2.2 := by
  have hpre := (List.takeWhile_prefix (fits most) (l := (cutL s).1)).length_le
  have hall : ∀ (i : Nat) (h : i < ((cutL s).1.takeWhile (fits most)).length) (h' : i < (cutL s).1.length), ((cutL s).1.takeWhile (fits most))[i] = (cutL s).1[i] ∧ ((((cutL s).1.takeWhile (fits most))[i]).length : Int) + 2 ≤ most := fun i h h' => by
    obtain ⟨h1, h2⟩ := takeWhile_get (fits most) _ i h h'
    exact ⟨h1, of_decide_eq_true h2⟩
  have hnx := takeWhile_next (fits most) (cutL s).1
  have hz : feedL (Fr.zero most) s = if ((cutL s).1.takeWhile (fits most)).length < (cutL s).1.length then ((cutL s).1.takeWhile (fits most), 40, ⟨most, [], true⟩) else if most ≤ ((cutL s).2.length : Int) then ((cutL s).1, 40, ⟨most, [], true⟩) else ((cutL s).1, 0, ⟨most, (cutL s).2, false⟩) := by
    unfold feedL; rfl
  by_cases hlt : ((cutL s).1.takeWhile (fits most)).length < (cutL s).1.length
  · rw [if_pos hlt] at hz
    rw [hz]
    dsimp only
    refine ⟨by omega, hall, fun h => by simp at h, fun _ => ⟨rfl, rfl, rfl, fun h => ?_, fun h => by omega⟩⟩
    have := of_decide_eq_false (hnx hlt)
    show most < _
    omega
  · rw [if_neg hlt] at hz
    have he : (cutL s).1.takeWhile (fits most) = (cutL s).1 := (List.takeWhile_prefix (fits most)).eq_of_length (by omega)
    by_cases hful : most ≤ ((cutL s).2.length : Int)
    · rw [if_pos hful] at hz
      rw [hz]
      dsimp only
      exact ⟨by simp, fun i h h' => ⟨rfl, by have := (hall i (by rw [he]; exact h) h'); simp only [he] at this; exact this.2⟩, fun h => by simp at h, fun _ => ⟨rfl, rfl, rfl, fun h => by simp at h, fun _ => hful⟩⟩
    · rw [if_neg hful] at hz
      rw [hz]
      dsimp only
      exact ⟨by simp, fun i h h' => ⟨rfl, by have := (hall i (by rw [he]; exact h) h'); simp only [he] at this; exact this.2⟩, fun _ => ⟨rfl, rfl, by show ((cutL s).2.length : Int) < most; omega, rfl⟩, fun h => by simp at h⟩
theorem cut_elem (s : List UInt8) {k : Nat} (h : k < (cutL s).1.length) : (cutL s).1[k].length + 2 ≤ s.length := by
  have h1 := joinL_le h
  have h2 := congrArg List.length (cutL_join s).1
  rw [List.length_append] at h2
  omega

set_option maxRecDepth 100000 in
set_option maxHeartbeats 2000000 in
theorem lineBound_walk (w : World) (m : Int) (hm : w.cell? ⟨0, 0, none⟩ = some (.int .i64 m)) (most : Int) (hmost : (Lit.int IntKind.i64 most).wf = true) (s : List UInt8) (hs : s.length ≤ 140737488351232) :
    Calls Try.prog 4 #[.int .i64 most, .string ⟨s.toArray⟩] w fun e w' => e = .returned (.bool true) ∧ Below w.heap.size w w' := by
  have HM := Lib.hid hm; clear hm
  have O := Own.start w
  go_enter Try.func4, Try.ntmps4
  by_cases hlong : 6000 < (s.length : Int)
  · go_wp2_with fail
    refine (awake_any _ m HM.out).mono ?_
    rintro e w2 ⟨rfl, ch⟩
    replace O := O.pure ch
    go_wp2
    go_ret
    exact ⟨rfl, O.below⟩
  have hlong' : ¬ 6000 < (s.length : Int) := hlong
  go_wp2_with fail
  refine (awake_any _ m HM.out).mono ?_
  rintro e w2 ⟨rfl, ch⟩
  replace O := O.pure ch; clear ch
  by_cases hb : 2 ≤ most ∧ most ≤ 512
  rotate_left
  · go_wp2_with fail
    refine (lnew_bad most hb).mono ?_
    rintro e w3 ⟨rfl, rfl⟩
    go_wp2
    go_ret
    exact ⟨rfl, O.below⟩
  go_wp2_with fail
  refine (lnew_own O most hb.1 hb.2).mono ?_
  clear O
  rintro e w3 ⟨p, rfl, O⟩
  have BD := bounded most s
  have B1 := feed_bound (Fr.zero most) s
  obtain ⟨⟨ls, er, f'⟩, hF⟩ : ∃ r, feedL (Fr.zero most) s = r := ⟨_, rfl⟩
  obtain ⟨⟨all, rest⟩, hC⟩ : ∃ r, cutL s = r := ⟨_, rfl⟩
  have cl := cutL_len s
  rw [hF] at B1 BD
  rw [hC] at BD cl
  obtain ⟨b1, b2, b3⟩ := B1
  simp only [Fr.zero, List.length_nil, Nat.zero_add] at b1 b2
  have F1 := Lib.hid hF; have C1 := Lib.hid hC; have BH := Lib.hid BD
  have ble := BD.le
  clear hF hC BD b3
  dsimp only at ble cl b1 b2
  go_wp2_with fail
  refine (feed_is HM.out (s := s) O F1.out (by omega) (Fr.zero_len _)).mono ?_
  clear O
  rintro e w5 ⟨v1, rfl, O⟩
  obtain ⟨a1, cap1, rfl⟩ := O.shape
  go_wp2_with fail
  refine (cut_is O HM.out C1.out (by omega)).mono ?_
  clear O
  rintro e w6 ⟨v2, rfl, O⟩
  obtain ⟨a2, cap2, rfl⟩ := O.shape
  go_wp2_with fail
  go_loopw [11] (fun iv wr => ∃ (i : Nat), iv = .int .i64 i ∧ i ≤ ls.length ∧ Own w wr [strs (.slice a2 all.length cap2) all, strs (.slice a1 ls.length cap1) ls, fram (.pointer (some ⟨p, 0, none⟩)) f']) (fun iv _ => ls.length - (intOf iv).toNat)
  case atStart => exact ⟨0, rfl, by omega, O⟩
  case round =>
    clear O
    obtain ⟨i, rfl, hi, O⟩ := hrel
    by_cases hlt : i < ls.length
    · have hlt2 : i < all.length := by omega
      obtain ⟨hx1, hx2⟩ := BH.out.pre i hlt hlt2
      rcases row_shape' O.row with h | ⟨g2, c2, h⟩
      · simp only [Value.slice.injEq] at h; omega
      simp only [Value.slice.injEq] at h
      obtain ⟨rfl, -, rfl⟩ := h
      rcases row_shape' (O.pick 1).row with h | ⟨g1, c1, h⟩
      · simp only [Value.slice.injEq] at h; omega
      simp only [Value.slice.injEq] at h
      obtain ⟨rfl, -, rfl⟩ := h
      obtain ⟨-, ca, -⟩ := O.readRow i hlt2
      obtain ⟨-, cb, -⟩ := (O.pick 1).readRow i hlt
      rw [hx1] at cb hx2
      have hn := frn_str all[i]
      obtain ⟨x, hx⟩ : ∃ x, x = all[i] := ⟨_, rfl⟩
      rw [← hx] at ca cb hx2 hn
      clear hx hx1
      have w1 : IntKind.i64.wrap (most - 2) = most - 2 := IntWalk.i64_in _ (by omega)
      have g1' : ¬ (most - 2 < (x.length : Int)) := by omega
      have g2' : ¬ ((all.length : Int) ≤ (i : Int)) := by omega
      have hb1 : (i : Int) < (ls.length : Int) := by omega
      have hb2 : (i : Int) < (all.length : Int) := by omega
      go_wp2_with fail
      go_quiet (fail)
      go_wp2
      go_roundw
      case rel => exact ⟨i + 1, by go_num, by omega, O.drewN _⟩
      case measure => simp [intOf]; omega
    · obtain rfl : i = ls.length := by omega
      have hb1 : ¬ (ls.length : Int) < (ls.length : Int) := by omega
      by_cases he : er = 0
      · obtain ⟨k1, k2, k3, k4⟩ := BH.out.ok he
        subst he
        rw [k1] at O ⊢
        have K2 := Lib.hid k2; have K4 := Lib.hid k4
        clear k1 k2 k4
        have hbl : ¬ (all.length : Int) < (all.length : Int) := by omega
        have he1 := fr_int (all.length : Int)
        have he2 := fr_str rest
        go_wp2_with fail
        refine (lleft_own (O.pick 2)).mono ?_
        rw [K2.out]
        rintro e w7 ⟨rfl, rfl⟩
        go_wp2_with fail
        refine (ldead_own (O.pick 2)).mono ?_
        rw [K4.out]
        rintro e w7 ⟨rfl, rfl⟩
        go_wp2
        go_ret
        exact ⟨rfl, O.below⟩
      · obtain ⟨k1, k2, k3, k4, k5⟩ := BH.out.bad he
        subst k1
        have K2 := Lib.hid k2; have K3 := Lib.hid k3; have K4 := Lib.hid k4; have K5 := Lib.hid k5
        clear k2 k3 k4 k5 he
        by_cases hlt2 : ls.length < all.length
        · have k4 := K4.out hlt2
          have hb2 : (ls.length : Int) < (all.length : Int) := by omega
          rcases row_shape' O.row with h | ⟨g2, c2, h⟩
          · simp only [Value.slice.injEq] at h; omega
          simp only [Value.slice.injEq] at h
          obtain ⟨rfl, -, rfl⟩ := h
          obtain ⟨-, ca, -⟩ := O.readRow ls.length hlt2
          have hxl : all[ls.length].length + 2 ≤ 6000 := by
            have h := cut_elem s (k := ls.length) (by rw [C1.out]; exact hlt2)
            simp only [C1.out] at h
            omega
          obtain ⟨x, hx⟩ : ∃ x, x = all[ls.length] := ⟨_, rfl⟩
          rw [← hx] at ca k4 hxl
          clear hx
          have g1' : most < (x.length : Int) + 2 := by omega
          go_wp2_with fail
          refine (ldead_own (O.pick 2)).mono ?_
          rw [K3.out]
          rintro e w7 ⟨rfl, rfl⟩
          go_wp2_with fail
          refine (lleft_own (O.pick 2)).mono ?_
          rw [K2.out]
          rintro e w7 ⟨rfl, rfl⟩
          go_wp2
          go_ret
          exact ⟨ret_bool (by simp), O.below⟩
        · have k5 := K5.out (by omega)
          have hbe : ls.length = all.length := by omega
          rw [hbe] at O ⊢
          clear hbe
          have hbl : ¬ (all.length : Int) < (all.length : Int) := by omega
          have he1 := fr_int (all.length : Int)
          go_wp2_with fail
          refine (ldead_own (O.pick 2)).mono ?_
          rw [K3.out]
          rintro e w7 ⟨rfl, rfl⟩
          go_wp2_with fail
          refine (lleft_own (O.pick 2)).mono ?_
          rw [K2.out]
          rintro e w7 ⟨rfl, rfl⟩
          by_cases hgt : most < (rest.length : Int)
          · go_wp2
            go_ret
            exact ⟨rfl, O.below⟩
          · have hq : ((rest.length : Int) == most) = true := by simp; omega
            go_wp2
            go_ret
            exact ⟨rfl, O.below⟩
end Go.Proofs.Ytkgfdmfkmcbecaa
