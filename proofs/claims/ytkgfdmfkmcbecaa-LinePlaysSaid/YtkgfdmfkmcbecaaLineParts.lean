/- LineParts: the walk. -/
import Derived.Test.YtkgfdmfkmcbecaaLineBound
import Derived.Test.YtkgfdmfkmcbecaaSl
namespace Go.Proofs.Ytkgfdmfkmcbecaa
set_option linter.all false
open Go.RowKit Go.Shelf

theorem cutL_app : ∀ (x y : List UInt8), cutL (x ++ y) = ((cutL x).1 ++ (cutL ((cutL x).2 ++ y)).1, (cutL ((cutL x).2 ++ y)).2)
  | [], y => rfl
  | [c], y => rfl
  | c :: d :: t, y => by
    by_cases h : c = 13 ∧ d = 10
    · have ih := cutL_app t y
      rw [List.cons_append, List.cons_append, cutL, if_pos h, cutL, if_pos h, ih]
      rfl
    · have ih := cutL_app (d :: t) y
      rw [List.cons_append] at ih
      rw [List.cons_append, List.cons_append, cutL, if_neg h, ih, cutL, if_neg h]
      cases hq : (cutL (d :: t)).1 with
      | nil =>
        have hn := cutL_none hq
        simp only [pushL, hq, hn, List.nil_append, List.cons_append]
        have e : cutL (c :: d :: (t ++ y)) = pushL c (cutL (d :: (t ++ y))) := by rw [cutL, if_neg h]
        rw [e]
        rfl
      | cons a r => simp [pushL, hq]
theorem cutL_long : ∀ (r b l0 : List UInt8) (ls : List (List UInt8)), (cutL r).1 = [] → (cutL (r ++ b)).1 = l0 :: ls → r.length ≤ l0.length + 1
  | [], b, l0, ls, _, _ => by simp
  | [c], b, l0, ls, _, _ => by simp
  | c :: d :: t, b, l0, ls, h1, h2 => by
    by_cases h : c = 13 ∧ d = 10
    · rw [cutL, if_pos h] at h1; cases h1
    · rw [cutL, if_neg h] at h1
      rw [List.cons_append, List.cons_append, cutL, if_neg h] at h2
      have h1' : (cutL (d :: t)).1 = [] := by
        cases hq : (cutL (d :: t)).1 with
        | nil => rfl
        | cons a r => simp [pushL, hq] at h1
      cases hq : (cutL (d :: (t ++ b))).1 with
      | nil => simp [pushL, hq] at h2
      | cons a r =>
        simp only [pushL, hq, List.cons.injEq] at h2
        have ih := cutL_long (d :: t) b a r h1' (by rw [List.cons_append]; exact hq)
        rw [← h2.1]
        simp at ih ⊢
        omega
theorem cutL_rest (s : List UInt8) : (cutL (cutL s).2).1 = [] := by
  have h := (atL_cut s (cutL s).1.length (Nat.le_refl _)).2.1
  rw [List.drop_length, (cutL_join s).2.1] at h
  rw [h]
theorem feed_app {f : Fr} (hd : f.dead = false) (a b : List UInt8) {l1 : List (List UInt8)} {e1 : Int} {f1 : Fr} (h : feedL f a = (l1, e1, f1)) :
    feedL f (a ++ b) = if e1 = 0 then (l1 ++ (feedL f1 b).1, (feedL f1 b).2.1, (feedL f1 b).2.2) else (l1, e1, f1) := by
  have hc := cutL_app (f.left ++ a) b
  rw [List.append_assoc] at hc
  unfold feedL at h ⊢
  rw [hd] at h ⊢
  simp only [Bool.false_eq_true, if_false] at h ⊢
  rw [hc]
  dsimp only
  by_cases h1 : ((cutL (f.left ++ a)).1.takeWhile (fits f.most)).length < (cutL (f.left ++ a)).1.length
  · rw [if_pos h1] at h
    cases h
    have ht : ((cutL (f.left ++ a)).1 ++ (cutL ((cutL (f.left ++ a)).2 ++ b)).1).takeWhile (fits f.most) = (cutL (f.left ++ a)).1.takeWhile (fits f.most) := by
      rw [List.takeWhile_append, if_neg (by omega)]
    rw [ht, if_pos (by rw [List.length_append]; omega), if_neg (by decide)]
  · have he : (cutL (f.left ++ a)).1.takeWhile (fits f.most) = (cutL (f.left ++ a)).1 := (List.takeWhile_prefix (fits f.most)).eq_of_length (by have := (List.takeWhile_prefix (fits f.most) (l := (cutL (f.left ++ a)).1)).length_le; omega)
    rw [if_neg h1] at h
    have ht : ((cutL (f.left ++ a)).1 ++ (cutL ((cutL (f.left ++ a)).2 ++ b)).1).takeWhile (fits f.most) = (cutL (f.left ++ a)).1 ++ (cutL ((cutL (f.left ++ a)).2 ++ b)).1.takeWhile (fits f.most) := by
      rw [List.takeWhile_append, if_pos (by rw [he])]
    rw [ht]
    simp only [List.length_append, Nat.add_lt_add_iff_left]
    by_cases h2 : f.most ≤ ((cutL (f.left ++ a)).2.length : Int)
    · rw [if_pos h2] at h
      cases h
      simp only [show ¬ ((40 : Int) = 0) by decide, if_false]
      have hr := cutL_rest (f.left ++ a)
      cases hl : (cutL ((cutL (f.left ++ a)).2 ++ b)).1 with
      | nil =>
        have hn := cutL_none hl
        simp only [hn, List.takeWhile_nil, List.length_nil, Nat.lt_irrefl, if_false, List.append_nil, List.length_append]
        rw [if_pos (by omega)]
      | cons l0 ls =>
        have hlen := cutL_long _ b l0 ls hr hl
        have hf : fits f.most l0 = false := decide_eq_false (by omega)
        simp only [List.takeWhile_cons, hf, Bool.false_eq_true, if_false, List.length_nil, List.length_cons, Nat.zero_lt_succ, if_true, List.append_nil]
    · rw [if_neg h2] at h
      cases h
      rw [if_pos rfl]
      dsimp only
      split
      · rfl
      · split <;> rfl

theorem part_to (z : Int) (fr n : Nat) (h : fr ≤ n) (hn : n ≤ 4000) : ∃ t : Nat, fr ≤ t ∧ t ≤ n ∧ wrap64 ((fr : Int) + wrap64 ((IntKind.u64.wrap z).tmod ((n : Int) - (fr : Int) + 1))) = (t : Int) := by
  have hu : 0 ≤ IntKind.u64.wrap z := by rw [IntKind.wrap_u64]; omega
  rw [Int.tmod_eq_emod_of_nonneg hu]
  have h1 := Int.emod_nonneg (IntKind.u64.wrap z) (b := (n : Int) - (fr : Int) + 1) (by omega)
  have h2 := Int.emod_lt_of_pos (IntKind.u64.wrap z) (b := (n : Int) - (fr : Int) + 1) (by omega)
  generalize IntKind.u64.wrap z % ((n : Int) - (fr : Int) + 1) = r at h1 h2
  refine ⟨fr + r.toNat, by omega, by omega, ?_⟩
  rw [IntWalk.wrap64_in r (by omega), IntWalk.wrap64_in _ (by omega)]
  omega
theorem feed_part {most : Int} {s : List UInt8} {fr to : Nat} {got : List (List UInt8)} {g : Fr} (h : feedL (Fr.zero most) (s.take fr) = (got, 0, g)) (hle : fr ≤ to) {r : List (List UInt8) × Int × Fr} (hr : feedL g ((s.take to).drop fr) = r) :
    feedL (Fr.zero most) (s.take to) = (got ++ r.1, r.2.1, r.2.2) := by
  have e : s.take to = s.take fr ++ (s.take to).drop fr := by
    conv => lhs; rw [← List.take_append_drop fr (s.take to)]
    rw [List.take_take, Nat.min_eq_left hle]
  rw [e, feed_app rfl _ _ h, if_pos rfl, hr]
theorem row_shape2 {w : World} {B : Nat} {e : TypeId} {v : Value} {n : Nat} {xs : List Value} (h : w.ownsRow B e 1 v n xs) : v = .slice none 0 0 ∨ ∃ ad m c, v = .slice (some ad) m c := by
  rcases row_shape' h with h | ⟨g, c, h⟩
  · exact .inl h
  · exact .inr ⟨_, _, _, h⟩
theorem feed_nil {most : Int} (h : 2 ≤ most) : feedL (Fr.zero most) [] = ([], 0, Fr.zero most) := by
  unfold feedL
  simp [Fr.zero, cutL]
  omega
set_option maxRecDepth 100000 in
set_option maxHeartbeats 4000000 in
theorem lineParts_walk (w : World) (m : Int) (hm : w.cell? ⟨0, 0, none⟩ = some (.int .i64 m)) (most : Int) (hmost : (Lit.int IntKind.i64 most).wf = true) (s : List UInt8) (hs : s.length ≤ 140737488351232)
    (va : Value) (zs : List Int) (Ga : List Nat) (sa : SlR w va (zs.map (.int .i64)) Ga) (ca : zs.length ≤ maxLen) (hz : ∀ z ∈ zs, (Lit.int .i64 z).wf = true) :
    Calls Try.prog 3 #[.int .i64 most, .string ⟨s.toArray⟩, va] w fun e w' => e = .returned (.bool true) ∧ Below w.heap.size w w' := by
  have HM := Lib.hid hm; clear hm
  have SA := Lib.hid sa; have HZ := Lib.hid hz
  obtain ⟨aa, capa, hva, -⟩ := id sa
  rw [List.length_map] at hva
  subst hva
  clear sa hz
  have O := Own.start w
  go_enter Try.func3, Try.ntmps3
  by_cases hlong : 4000 < (s.length : Int)
  · go_wp2_with fail
    refine (awake_any _ m HM.out).mono ?_
    rintro e w2 ⟨rfl, ch⟩
    replace O := O.pure ch
    go_wp2
    go_ret
    exact ⟨rfl, O.below⟩
  have hlong' : ¬ 4000 < (s.length : Int) := hlong
  by_cases hlong2 : 200 < (zs.length : Int)
  · go_wp2_with fail
    refine (awake_any _ m HM.out).mono ?_
    rintro e w2 ⟨rfl, ch⟩
    replace O := O.pure ch
    go_wp2
    go_ret
    exact ⟨rfl, O.below⟩
  have hlong2' : ¬ 200 < (zs.length : Int) := hlong2
  go_wp2_with fail
  refine (awake_any _ m HM.out).mono ?_
  rintro e w2 ⟨rfl, ch⟩
  replace O := O.pure ch; clear ch
  by_cases hb : 2 ≤ most ∧ most ≤ 512
  rotate_left
  · go_wp2_with fail
    refine (lnew_bad most hb).mono ?_
    rintro e w3 ⟨rfl, rfl⟩
    go_wp2_with fail
    refine (lnew_bad most hb).mono ?_
    rintro e w3 ⟨rfl, rfl⟩
    go_wp2
    go_ret
    exact ⟨rfl, O.below⟩
  go_wp2_with fail
  refine (lnew_own O most hb.1 hb.2).mono ?_
  clear O
  rintro e w3 ⟨p, rfl, O⟩
  go_wp2_with fail
  refine (lnew_own O most hb.1 hb.2).mono ?_
  clear O
  rintro e w4 ⟨q, rfl, O⟩
  have B1 := feed_bound (Fr.zero most) s
  obtain ⟨⟨l1, e1, f1⟩, hF1⟩ : ∃ r, feedL (Fr.zero most) s = r := ⟨_, rfl⟩
  rw [hF1] at B1
  obtain ⟨b1, b2, b3⟩ := B1
  simp only [Fr.zero, List.length_nil, Nat.zero_add] at b1 b2
  have F1 := Lib.hid hF1
  clear hF1 b3
  go_wp2_with fail
  refine (feed_is HM.out (s := s) (O.pick 1) F1.out (by omega) (Fr.zero_len _)).mono ?_
  clear O
  rintro e w5 ⟨v1, rfl, O⟩
  obtain ⟨a1, cap1, rfl⟩ := O.shape
  replace O := O.nilStrs.selK 4 [0, 3, 1, 2]
  try simp only [List.map_cons, List.map_nil, List.getD_cons_zero, List.getD_cons_succ, List.eraseIdx_cons_zero, List.eraseIdx_cons_succ, List.getElem_cons_zero, List.getElem_cons_succ, List.take_succ_cons, List.take_zero, List.drop_succ_cons, List.drop_zero, List.cons_append, List.nil_append, List.append_eq] at O
  go_wp2_with fail
  go_loopw [13, 14, 15, 16] (fun gv fv bv iv wr => ∃ (i fr : Nat) (got : List (List UInt8)) (bad : Int) (g : Fr) (v : Value), gv = v ∧ fv = .int .i64 fr ∧ bv = .int .i64 bad ∧ iv = .int .i64 i ∧ i ≤ zs.length + 1 ∧ fr ≤ s.length ∧
    feedL (Fr.zero most) (s.take fr) = (got, bad, g) ∧ (i = zs.length + 1 → bad = 0 → fr = s.length) ∧ Own w wr [strs v got, fram (.pointer (some ⟨q, 0, none⟩)) g, strs (.slice a1 l1.length cap1) l1, fram (.pointer (some ⟨p, 0, none⟩)) f1]) (fun _ _ _ iv _ => zs.length + 1 - (intOf iv).toNat)
  case atStart => exact ⟨0, 0, [], 0, Fr.zero most, _, rfl, rfl, rfl, rfl, by omega, by omega, feed_nil hb.1, by omega, O⟩
  case round =>
    clear O
    obtain ⟨i, fr, got, bad, g, v, rfl, rfl, rfl, rfl, hi, hfr, hF, hend, O⟩ := hrel
    have HF := Lib.hid hF; have HE := Lib.hid hend
    have BB := feed_bound (Fr.zero most) (s.take fr)
    rw [hF] at BB
    obtain ⟨bb1, bb2, bb3⟩ := BB
    simp only [Fr.zero, List.length_nil, Nat.zero_add, List.length_take] at bb1 bb2
    clear hF hend bb3
    obtain ⟨av, cv, rfl⟩ := O.shape
    by_cases hgo : i ≤ zs.length ∧ bad = 0
    · obtain ⟨hi2, rfl⟩ := hgo
      have hb1 : (i : Int) ≤ (zs.length : Int) := by omega
      have hfrle : (fr : Int) ≤ (s.length : Int) := by omega
      by_cases hlt : i < zs.length
      · have hb2 : (i : Int) < (zs.length : Int) := by omega
        obtain ⟨ga, offa, rfl, cell⟩ := (O.cameSl SA.out).read (k := i) (by simpa using hlt)
        rw [List.getElem_map] at cell
        have wz := HZ.out zs[i] (List.getElem_mem _)
        obtain ⟨to, to1, to2, hto⟩ := part_to zs[i] fr s.length hfr (by omega)
        have b4 : (to : Int) ≤ (s.length : Int) := by omega
        have b5 : (fr : Int) ≤ (to : Int) := by omega
        go_wp2_with fail
        have hP := feed_part HF.out to1 rfl
        obtain ⟨⟨l2, e2, g2⟩, hG⟩ : ∃ r, feedL g ((s.take to).drop fr) = r := ⟨_, rfl⟩
        have CB := feed_bound g ((s.take to).drop fr)
        rw [hG] at hP CB
        simp only [List.length_drop, List.length_take] at CB
        obtain ⟨cb1, cb2, -⟩ := CB
        have GG := Lib.hid hG; have PP := Lib.hid hP
        clear hG hP
        refine (feed_is HM.out (s := (s.take to).drop fr) (O.pick 1) GG.out (by simp; omega) (by omega)).mono ?_
        clear O cell
        rintro e w6 ⟨v2, rfl, O⟩
        obtain ⟨a2, cap2, rfl⟩ := O.shape
        have ho := Lib.hid O.strsR; have hbd : got.length + l2.length ≤ 1000000000 := by omega
        have hk := Lib.hid (row_shape2 O.row)
        go_wp2_with (at_builtin; refine wpList_append_strsO rfl _ _ rfl _ got _ l2 _ (O.pick 2) rfl rfl ho.out hk.out hbd ?_)
        intro v' w7 O7
        obtain ⟨a7, cap7, rfl⟩ := O7.shape
        clear O ho hk hbd
        go_wp2
        go_roundw
        case rel =>
          replace O7 := O7.sel [0, 2, 3, 4]
          try simp only [List.map_cons, List.map_nil, List.getD_cons_zero, List.getD_cons_succ, List.eraseIdx_cons_zero, List.eraseIdx_cons_succ, List.getElem_cons_zero, List.getElem_cons_succ] at O7
          exact ⟨i + 1, to, got ++ l2, e2, g2, _, rfl, rfl, rfl, by go_num, by omega, by omega, PP.out, fun h _ => by omega, O7⟩
        case measure => simp [intOf]; omega
      · obtain rfl : i = zs.length := by omega
        have hb2 : ¬ (zs.length : Int) < (zs.length : Int) := by omega
        go_wp2_with fail
        rw [show List.drop fr s = (s.take s.length).drop fr from by rw [List.take_length]]
        have hP := feed_part HF.out hfr rfl
        obtain ⟨⟨l2, e2, g2⟩, hG⟩ : ∃ r, feedL g ((s.take s.length).drop fr) = r := ⟨_, rfl⟩
        have CB := feed_bound g ((s.take s.length).drop fr)
        rw [hG] at hP CB
        simp only [List.length_drop, List.length_take] at CB
        obtain ⟨cb1, cb2, -⟩ := CB
        have GG := Lib.hid hG; have PP := Lib.hid hP
        clear hG hP
        refine (feed_is HM.out (s := (s.take s.length).drop fr) (O.pick 1) GG.out (by simp; omega) (by omega)).mono ?_
        clear O
        rintro e w6 ⟨v2, rfl, O⟩
        obtain ⟨a2, cap2, rfl⟩ := O.shape
        have ho := Lib.hid O.strsR; have hbd : got.length + l2.length ≤ 1000000000 := by omega
        have hk := Lib.hid (row_shape2 O.row)
        go_wp2_with (at_builtin; refine wpList_append_strsO rfl _ _ rfl _ got _ l2 _ (O.pick 2) rfl rfl ho.out hk.out hbd ?_)
        intro v' w7 O7
        obtain ⟨a7, cap7, rfl⟩ := O7.shape
        clear O ho hk hbd
        go_wp2
        go_roundw
        case rel =>
          replace O7 := O7.sel [0, 2, 3, 4]
          try simp only [List.map_cons, List.map_nil, List.getD_cons_zero, List.getD_cons_succ, List.eraseIdx_cons_zero, List.eraseIdx_cons_succ, List.getElem_cons_zero, List.getElem_cons_succ] at O7
          exact ⟨zs.length + 1, s.length, got ++ l2, e2, g2, _, rfl, rfl, rfl, by go_num, by omega, by omega, PP.out, fun _ _ => rfl, O7⟩
        case measure => simp [intOf]
    · have hdone : feedL (Fr.zero most) s = (got, bad, g) := by
        by_cases hbad : bad = 0
        · have hfe := HE.out (by omega) hbad
          have h := HF.out
          rw [hfe, List.take_length] at h
          exact h
        · have h := feed_app rfl (s.take fr) (s.drop fr) HF.out
          rw [List.take_append_drop, if_neg hbad] at h
          exact h
      rw [F1.out] at hdone
      cases hdone
      have i1 := fr_int e1; have i2 := fr_str f1.left; have i3 := fr_bool f1.dead
      clear HF HE SA
      have hx : ¬ (i : Int) ≤ (zs.length : Int) ∨ (i : Int) ≤ (zs.length : Int) ∧ (e1 == 0) = false := by
        by_cases h : i ≤ zs.length
        · exact .inr ⟨by omega, by simp; exact fun h' => hgo ⟨h, h'⟩⟩
        · exact .inl (by omega)
      clear hgo
      have HX := Lib.hid hx; clear hx
      rcases HX.out with hx1 | ⟨hx1, hx2⟩
      focus
        go_wp2_with fail
      rotate_left
      focus
        go_wp2_with fail
      rotate_left
      all_goals
        refine (same_own O _ l1 _ (O.pick 2).strsR (by omega) true (by simp)).mono ?_
        clear O
        rintro e w9 ⟨rfl, O⟩
        go_wp2_with fail
        refine (lleft_own (O.pick 3)).mono ?_
        rintro e w10 ⟨rfl, rfl⟩
        go_wp2_with fail
        refine (lleft_own (O.pick 1)).mono ?_
        rintro e w10 ⟨rfl, rfl⟩
        go_wp2_with fail
        refine (ldead_own (O.pick 3)).mono ?_
        rintro e w10 ⟨rfl, rfl⟩
        go_wp2_with fail
        refine (ldead_own (O.pick 1)).mono ?_
        rintro e w10 ⟨rfl, rfl⟩
        go_wp2
        go_ret
        exact ⟨rfl, O.below⟩
end Go.Proofs.Ytkgfdmfkmcbecaa
