/- FrameBack: the walk. -/
import Derived.Test.YtdfkjjopekceoaaDoorFrameTorn
import Derived.Test.YtdfkjjopekceoaaDoorFmR
namespace Go.Proofs.YtdfkjjopekceoaaDoor
set_option linter.all false
open Go.RowKit

theorem Own.noStrs {w0 w : World} {L : List Piece} (h : Own w0 w L) : Own w0 (w.alloc (.cells #[] 9)) (strs (.slice (some ⟨w.heap.size, 0, none⟩) 0 0) [] :: L) :=
  h.new ((Chg.refl [] w).alloc _) (strs _ []) (F := [w.heap.size]) ⟨World.ownsRow_made w #[] 0 h.size (by unfold maxLen; omega) (by simp), rfl⟩ (by simp)
theorem Own.strsKind {w0 w : World} {L : List Piece} {v : Value} {ss : List (List UInt8)} (h : Own w0 w (strs v ss :: L)) : Kind v := by
  rcases row_shape' h.row with e | ⟨g, cap, e⟩
  · exact .inl e
  · exact .inr ⟨_, _, _, e⟩
theorem fill_zero (n : Nat) (hn : n ≤ 1000) (w : World) :
    Calls Tryd.prog 23 #[.int .u8 0, .int .i64 n] w fun e w' => e = .returned (.string ⟨(List.replicate n 0).toArray⟩) ∧ Chg [] w w' := fill_any 0 n hn w
set_option maxRecDepth 100000 in
set_option maxHeartbeats 4000000 in
theorem frameBack_walk {w : World} (age : Int) (ha : (Lit.int .i64 age).wf = true) (place : Int) (hp : (Lit.int .i64 place).wf = true) (s : List UInt8) (hs : s.length ≤ 140737488351232) (vb : Value) (B : List (List UInt8)) (G : List Nat) (sb : StrsR w vb B G) (bb : ∀ s ∈ B, s.length ≤ maxLen) (gb : ∀ k ∈ G, k < w.heap.size) (cb : B.length ≤ maxLen) (kb : Kind vb) :
    Calls Tryd.prog 7 #[.int .i64 age, .int .i64 place, .string ⟨s.toArray⟩, vb] w fun e w' => e = .returned (.bool true) ∧ Below w.heap.size w w' := by
  have O := Own.start w
  have SB := Lib.hid sb
  have KB := Lib.hid kb
  obtain ⟨ab, capb, rfl, -⟩ := sb
  clear bb gb kb
  go_enter Tryd.func7, Tryd.ntmps7
  by_cases hs3 : (5000 : Int) < (s.length : Int)
  · go_wp2_with fail
    refine (awake11 O).mono ?_
    rintro e w1 ⟨rfl, O1⟩
    go_wp2
    go_returns
    exact ⟨rfl, O1.below⟩
  by_cases hb3 : (100 : Int) < (B.length : Int)
  · go_wp2_with fail
    refine (awake11 O).mono ?_
    rintro e w1 ⟨rfl, O1⟩
    go_wp2
    go_returns
    exact ⟨rfl, O1.below⟩
  go_wp2_with fail
  refine (awake11 O).mono ?_
  clear O
  rintro e w1 ⟨rfl, O⟩
  go_wp2_with fail
  refine (put_any O age place s).mono ?_
  clear O
  rintro e w2 ⟨rfl, O⟩
  obtain ⟨X, hX⟩ : ∃ X, X = putX age place s := ⟨_, rfl⟩
  obtain ⟨E, hE⟩ : ∃ E, E = putE age place s := ⟨_, rfl⟩
  rw [← hX, ← hE]
  have HX := Lib.hid hX
  have HE := Lib.hid hE
  clear hX hE
  by_cases h1 : E = 0
  rotate_left
  · have h1a : (E != 0) = true := by simpa using h1
    have h1b : (E == 0) = false := by simpa using h1
    go_upto_region 8 with fail
    go_wp2_with fail
    refine (split_any O age place s hs).mono ?_
    clear O
    rintro e w8 ⟨v, rfl, O⟩
    obtain ⟨F, hF⟩ : ∃ F, F = splitE age place s := ⟨_, rfl⟩
    rw [← hF]
    have HF := Lib.hid hF
    clear hF
    by_cases h2 : F = 0
    rotate_left
    · have h2a : (F != 0) = true := by simpa using h2
      rw [splitX_nil (by rw [← HF.out]; exact h2)] at O
      obtain ⟨a, cap, rfl⟩ := O.shape
      go_wp2
      go_returns
      exact ⟨rfl, O.below⟩
    obtain ⟨r1, r2, r3⟩ := splitE_zero (HF.out.symm.trans h2)
    have hr : RecOk age place s := ⟨r1, r2⟩
    have HR := Lib.hid hr
    obtain ⟨q1, q2, q3, q4, q5, q6, q7⟩ := hr.bounds
    rw [r3] at O
    obtain ⟨SS, hSS⟩ : ∃ SS, SS = splitL age place s := ⟨_, rfl⟩
    rw [← hSS] at O
    obtain ⟨N, hN⟩ : ∃ N, N = manyN s.length := ⟨_, rfl⟩
    have hNl : SS.length = N := by rw [hSS, hN, split_len]
    have hN1 : 1 ≤ N := by rw [hN]; exact many_pos _
    have hN2 : N ≤ 1024 := by omega
    have hN7 : place + (N : Int) ≤ 1024 := by omega
    obtain ⟨g, cap, rfl⟩ := O.shapePos (by omega)
    rw [hNl] at O ⊢
    have HSS := Lib.hid hSS
    have HN := Lib.hid hN
    have HNL := Lib.hid hNl
    clear hSS hN hNl hr r1 r2 r3 q7
    go_wp2_with fail
    refine (many_nat s.length (by omega) _).mono ?_
    rintro e w9 ⟨rfl, rfl⟩
    rw [← HN.out]
    go_wp2_with fail
    go_loopw [17] (fun iv wr => ∃ i : Nat, iv = .int .i64 i ∧ i ≤ N ∧ Own w wr [strs (.slice (some ⟨g, 0, none⟩) N cap) SS]) (fun iv _ => N - (intOf iv).toNat)
    case atStart => exact ⟨0, rfl, by omega, O⟩
    case round =>
      clear O
      obtain ⟨i, rfl, hi, O⟩ := hrel
      by_cases hlt : i < N
      · have hb1 : (i : Int) < (N : Int) := by omega
        have hil : i < SS.length := by have := HNL.out; omega
        obtain ⟨-, cm, -⟩ := O.readRow i hil
        obtain ⟨x, hx⟩ : ∃ x, x = SS[i] := ⟨_, rfl⟩
        rw [← hx] at cm
        have hok : okAt age place i x = true := by
          have hil2 : i < (splitL age place s).length := by rw [← HSS.out]; exact hil
          have := split_ok HR.out i hil2
          rw [hx]
          simpa [HSS.out] using this
        unfold okAt at hok
        simp only [Bool.and_eq_true, decide_eq_true_eq] at hok
        obtain ⟨k1, k2, k3⟩ := hok
        have K1 := Lib.hid k1
        have K2 := Lib.hid k2
        have wpi : IntKind.i64.wrap (place + (i : Int)) = place + (i : Int) := i64_wraps _ (by omega) (by omega)
        have K3 := Lib.hid (show (getP x : Int) = place + (i : Int) by rw [k3, IntWalk.wrap64_in _ (by omega)])
        have w1' : IntKind.i64.wrap ((i : Int) + 1) = (i : Int) + 1 := i64_wraps _ (by omega) (by omega)
        clear hx k1 k2 k3
        go_wp2_with fail
        refine (get_any O x).mono ?_
        clear O cm
        rintro e w10 ⟨rfl, O⟩
        rw [getV_true K1.out, K2.out, K3.out]
        go_wp2
        exact ⟨⟨i + 1, by go_num, by omega, O⟩, by simp [intOf]; omega⟩
      · have hb1 : ¬ (i : Int) < (N : Int) := by omega
        have O2 := O.noStrs
        clear O
        go_wp2_with (at_builtin; refine wpList_append_strsO rfl _ _ rfl _ [] _ SS _ O2 rfl rfl (O2.pick 1).strsR (O2.pick 1).strsKind (by have := HNL.out; simp; omega) ?_)
        intro v1 w11 O3
        clear O2
        obtain ⟨a1, cap1, rfl⟩ := O3.shape
        go_wp2_with (at_builtin; refine wpList_append_strsO rfl _ _ rfl _ ([] ++ SS) _ B _ O3 rfl rfl (O3.came SB.out) KB.out (by have := HNL.out; simp; omega) ?_)
        intro v2 w12 O4
        clear O3
        obtain ⟨a2, cap2, rfl⟩ := O4.shape
        have hv := O4.strsR
        obtain ⟨K, hK⟩ : ∃ K, K = (SS ++ B).length := ⟨_, rfl⟩
        rw [← hK] at hv
        rw [← hK]
        clear hK
        have O5 := Lib.hid O4
        obtain ⟨j1, j2, j3⟩ := join_split HR.out B
        rw [← HSS.out] at j1 j2 j3
        rw [← HN.out] at j3
        have hjl : (SS ++ B).length ≤ 1000000000 := by have := HNL.out; rw [List.length_append]; omega
        have J1 := Lib.hid j1
        have J2 := Lib.hid j2
        have J3 := Lib.hid j3
        clear O4 j1 j2 j3
        go_wp2_with fail
        refine (join_chg hv age place hjl).mono ?_
        rintro e w13 ⟨rfl, oj⟩
        have O6 := O5.out.pure oj.chg
        clear O5 hv oj
        rw [joinV_true J1.out, J2.out, J3.out]
        go_wp2
        go_returns
        exact ⟨rfl, O6.below⟩
  obtain ⟨m1, m2, m3⟩ := putE_zero (HE.out.symm.trans h1)
  have XS := Lib.hid (HX.out.trans m3)
  have gx := putS_B m1 m2
  have ax := putS_A (s := s) m1
  have px := putS_P (s := s) m1
  have tx := putS_text (age := age) (place := place) m2
  have qx := putS_age m1 m2
  rw [← XS.out] at gx ax px tx qx
  have QX := Lib.hid qx
  clear qx
  go_wp2_with fail
  refine (get_any O X).mono ?_
  clear O
  rintro e w3 ⟨rfl, O⟩
  rw [getV_true gx, ax, px]
  obtain ⟨C, hC⟩ : ∃ C, C = 112 - s.length := ⟨_, rfl⟩
  obtain ⟨T, hT⟩ : ∃ T, T = getT X := ⟨_, rfl⟩
  rw [← hT]
  have htx : T = s ++ List.replicate C 0 := by rw [hT, tx, hC]
  have htl : (T.length : Int) = 112 := by rw [htx]; simp; omega
  have htl2 : s.length ≤ T.length := by omega
  have e1 : ∀ w' : World, (Instr.slice 9 (.string ⟨T.toArray⟩) none (some (.int .i64 s.length)) none).run Tryd.prog w' = .ok (.string ⟨s.toArray⟩) w' := fun w' => (run_subTo T s.length htl2 w').trans (by rw [htx, List.take_append_of_le_length (Nat.le_refl _), List.take_length])
  have e2 : ∀ w' : World, (Instr.slice 9 (.string ⟨T.toArray⟩) (some (.int .i64 s.length)) none none).run Tryd.prog w' = .ok (.string ⟨(List.replicate C 0).toArray⟩) w' := fun w' => (run_subFrom T s.length htl2 w').trans (by rw [htx, List.drop_append_of_le_length (Nat.le_refl _), List.drop_length, List.nil_append])
  have hc : (112 : Int) - (s.length : Int) = (C : Int) := by omega
  have hcw : IntKind.i64.wrap (C : Int) = (C : Int) := i64_wraps _ (by omega) (by omega)
  have HC := Lib.hid (show C ≤ 1000 by omega)
  have O0 := Lib.hid O.drew
  clear m1 m2 m3 gx ax px tx hC hT htx htl2
  go_upto_region 6 with fail
  go_region_held3 (fun _ => True)
    (exact trivial)
    (first
      | (go_at_call 23; (with_reducible refine (fill_zero C HC.out _).mono ?_); rintro e w6 ⟨rfl, c6⟩; (have O6 := O0.out.pure c6))
      | (go_at_call 21; (with_reducible refine (age_any O6 X).mono ?_); rintro e w7 ⟨rfl, O7⟩; (rw [QX.out])))
  clear O0 O6 c6 e1 e2 hc hcw
  have O := O7
  clear O7
  go_upto_region 8 with fail
  go_wp2_with fail
  refine (split_any O age place s hs).mono ?_
  clear O
  rintro e w8 ⟨v, rfl, O⟩
  obtain ⟨F, hF⟩ : ∃ F, F = splitE age place s := ⟨_, rfl⟩
  rw [← hF]
  have HF := Lib.hid hF
  clear hF
  by_cases h2 : F = 0
  rotate_left
  · have h2a : (F != 0) = true := by simpa using h2
    rw [splitX_nil (by rw [← HF.out]; exact h2)] at O
    obtain ⟨a, cap, rfl⟩ := O.shape
    go_wp2
    go_returns
    exact ⟨rfl, O.below⟩
  obtain ⟨r1, r2, r3⟩ := splitE_zero (HF.out.symm.trans h2)
  have hr : RecOk age place s := ⟨r1, r2⟩
  have HR := Lib.hid hr
  obtain ⟨q1, q2, q3, q4, q5, q6, q7⟩ := hr.bounds
  rw [r3] at O
  obtain ⟨SS, hSS⟩ : ∃ SS, SS = splitL age place s := ⟨_, rfl⟩
  rw [← hSS] at O
  obtain ⟨N, hN⟩ : ∃ N, N = manyN s.length := ⟨_, rfl⟩
  have hNl : SS.length = N := by rw [hSS, hN, split_len]
  have hN1 : 1 ≤ N := by rw [hN]; exact many_pos _
  have hN2 : N ≤ 1024 := by omega
  have hN7 : place + (N : Int) ≤ 1024 := by omega
  obtain ⟨g, cap, rfl⟩ := O.shapePos (by omega)
  rw [hNl] at O ⊢
  have HSS := Lib.hid hSS
  have HN := Lib.hid hN
  have HNL := Lib.hid hNl
  clear hSS hN hNl hr r1 r2 r3 q7
  go_wp2_with fail
  refine (many_nat s.length (by omega) _).mono ?_
  rintro e w9 ⟨rfl, rfl⟩
  rw [← HN.out]
  go_wp2_with fail
  go_loopw [17] (fun iv wr => ∃ i : Nat, iv = .int .i64 i ∧ i ≤ N ∧ Own w wr [strs (.slice (some ⟨g, 0, none⟩) N cap) SS]) (fun iv _ => N - (intOf iv).toNat)
  case atStart => exact ⟨0, rfl, by omega, O⟩
  case round =>
    clear O
    obtain ⟨i, rfl, hi, O⟩ := hrel
    by_cases hlt : i < N
    · have hb1 : (i : Int) < (N : Int) := by omega
      have hil : i < SS.length := by have := HNL.out; omega
      obtain ⟨-, cm, -⟩ := O.readRow i hil
      obtain ⟨x, hx⟩ : ∃ x, x = SS[i] := ⟨_, rfl⟩
      rw [← hx] at cm
      have hok : okAt age place i x = true := by
        have hil2 : i < (splitL age place s).length := by rw [← HSS.out]; exact hil
        have := split_ok HR.out i hil2
        rw [hx]
        simpa [HSS.out] using this
      unfold okAt at hok
      simp only [Bool.and_eq_true, decide_eq_true_eq] at hok
      obtain ⟨k1, k2, k3⟩ := hok
      have K1 := Lib.hid k1
      have K2 := Lib.hid k2
      have wpi : IntKind.i64.wrap (place + (i : Int)) = place + (i : Int) := i64_wraps _ (by omega) (by omega)
      have K3 := Lib.hid (show (getP x : Int) = place + (i : Int) by rw [k3, IntWalk.wrap64_in _ (by omega)])
      have w1' : IntKind.i64.wrap ((i : Int) + 1) = (i : Int) + 1 := i64_wraps _ (by omega) (by omega)
      clear hx k1 k2 k3
      go_wp2_with fail
      refine (get_any O x).mono ?_
      clear O cm
      rintro e w10 ⟨rfl, O⟩
      rw [getV_true K1.out, K2.out, K3.out]
      go_wp2
      exact ⟨⟨i + 1, by go_num, by omega, O⟩, by simp [intOf]; omega⟩
    · have hb1 : ¬ (i : Int) < (N : Int) := by omega
      have O2 := O.noStrs
      clear O
      go_wp2_with (at_builtin; refine wpList_append_strsO rfl _ _ rfl _ [] _ SS _ O2 rfl rfl (O2.pick 1).strsR (O2.pick 1).strsKind (by have := HNL.out; simp; omega) ?_)
      intro v1 w11 O3
      clear O2
      obtain ⟨a1, cap1, rfl⟩ := O3.shape
      go_wp2_with (at_builtin; refine wpList_append_strsO rfl _ _ rfl _ ([] ++ SS) _ B _ O3 rfl rfl (O3.came SB.out) KB.out (by have := HNL.out; simp; omega) ?_)
      intro v2 w12 O4
      clear O3
      obtain ⟨a2, cap2, rfl⟩ := O4.shape
      have hv := O4.strsR
      obtain ⟨K, hK⟩ : ∃ K, K = (SS ++ B).length := ⟨_, rfl⟩
      rw [← hK] at hv
      rw [← hK]
      clear hK
      have O5 := Lib.hid O4
      obtain ⟨j1, j2, j3⟩ := join_split HR.out B
      rw [← HSS.out] at j1 j2 j3
      rw [← HN.out] at j3
      have hjl : (SS ++ B).length ≤ 1000000000 := by have := HNL.out; rw [List.length_append]; omega
      have J1 := Lib.hid j1
      have J2 := Lib.hid j2
      have J3 := Lib.hid j3
      clear O4 j1 j2 j3
      go_wp2_with fail
      refine (join_chg hv age place hjl).mono ?_
      rintro e w13 ⟨rfl, oj⟩
      have O6 := O5.out.pure oj.chg
      clear O5 hv oj
      rw [joinV_true J1.out, J2.out, J3.out]
      go_wp2
      go_returns
      exact ⟨rfl, O6.below⟩
end Go.Proofs.YtdfkjjopekceoaaDoor
