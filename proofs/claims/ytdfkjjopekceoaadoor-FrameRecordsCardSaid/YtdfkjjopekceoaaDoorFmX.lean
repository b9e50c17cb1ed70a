/- frame: the document's Split. -/
import Derived.Test.YtdfkjjopekceoaaDoorFmW
namespace Go.Proofs.YtdfkjjopekceoaaDoor
set_option linter.all false
open Go.RowKit

theorem hdr_leb (n len : Int) : lebL n 2 ++ lebL len 4 = hdrL n len := rfl
set_option maxRecDepth 100000 in
set_option maxHeartbeats 4000000 in
theorem splitR_any {w0 w : World} {L : List Piece} (O : Own w0 w L) (age place : Int) (s : List UInt8) (hl : s.length ≤ 140737488351232) :
    Calls Tryd.prog 11 #[.int .i64 age, .int .i64 place, .string ⟨s.toArray⟩] w (SplitEnd w0 L (splitX age place s) (splitE age place s)) := by
  unfold splitX splitE
  cases hm : mayB age place with
  | false =>
    have H := Lib.hid hm
    clear hm
    go_enter Tryd.func11, Tryd.ntmps11
    go_wp2_with fail
    refine (mayR_any age place _).mono ?_
    rw [H.out]
    rintro e w1 ⟨rfl, rfl⟩
    go_wp2
    go_returns
    exact ⟨_, rfl, O.nilStrs⟩
  | true =>
    have H := Lib.hid hm
    obtain ⟨b1, b2, b3, b4⟩ := mayB_iff.1 hm
    obtain ⟨N, hN⟩ : ∃ N, N = manyN s.length := ⟨_, rfl⟩
    have hNb : N ≤ 2000000000000 := by rw [hN]; unfold manyN; omega
    have wN : IntKind.i64.wrap (place + (N : Int)) = place + (N : Int) := i64_wraps _ (by omega) (by omega)
    rw [← hN]
    by_cases hs : (N : Int) ≤ 1024 - place
    rotate_left
    · rw [decide_eq_false hs]
      have hb : (1024 : Int) < place + (N : Int) := by omega
      have HN := Lib.hid hN
      clear hs hm hN
      go_enter Tryd.func11, Tryd.ntmps11
      go_wp2_with fail
      refine (mayR_any age place _).mono ?_
      rw [H.out]
      rintro e w1 ⟨rfl, rfl⟩
      go_wp2_with fail
      refine (manyR_nat s.length (by omega) _).mono ?_
      rw [← HN.out]
      rintro e w2 ⟨rfl, rfl⟩
      go_wp2
      go_returns
      exact ⟨_, rfl, O.nilStrs⟩
    rw [decide_eq_true hs]
    have hrec : RecOk age place s := ⟨hm, by rw [← hN]; exact hs⟩
    obtain ⟨-, -, -, -, q5, q6, q7⟩ := hrec.bounds
    rw [← hN] at q5 q7
    have hb : ¬ (1024 : Int) < place + (N : Int) := by omega
    have hsn := fun i hi => split_snoc age place s i hi
    obtain ⟨SS, hSS⟩ : ∃ SS, SS = splitL age place s := ⟨_, rfl⟩
    obtain ⟨AL, hAL⟩ : ∃ AL, AL = allL s := ⟨_, rfl⟩
    have hlen : SS.length = N := by rw [hSS, hN]; exact split_len _ _ _
    rw [← hN, ← hSS, ← hAL] at hsn
    rw [← hSS]
    have HALL := Lib.hid (show AL = hdrL N s.length ++ s by rw [hAL, hN]; rfl)
    have HAL := Lib.hid (show AL.length = s.length + 6 by rw [hAL, allL_len])
    have HMG := Lib.hid (show 112 * (N - 1) ≤ s.length + 6 by rw [hN]; exact many_ge _)
    have HSN := Lib.hid hsn
    have HLEN := Lib.hid hlen
    have HN := Lib.hid hN
    clear hs hm hN hSS hAL hlen hsn hrec
    go_enter Tryd.func11, Tryd.ntmps11
    go_wp2_with fail
    refine (mayR_any age place _).mono ?_
    rw [H.out]
    rintro e w1 ⟨rfl, rfl⟩
    go_wp2_with fail
    refine (manyR_nat s.length (by omega) _).mono ?_
    rw [← HN.out]
    rintro e w2 ⟨rfl, rfl⟩
    go_wp2_with fail
    refine (bytesR_own O (N : Int) (by omega) (by omega) 2 (by omega)).mono ?_
    clear O
    rintro e w3 ⟨rfl, O⟩
    obtain ⟨T1, hT1⟩ : ∃ T1, T1 = lebL (N : Int) 2 := ⟨_, rfl⟩
    have l1 : T1.length = 2 := by rw [hT1]; rfl
    rw [← hT1]
    have HT1 := Lib.hid hT1
    clear hT1
    go_wp2_with fail
    refine (bytesR_own O (s.length : Int) (by omega) (by omega) 4 (by omega)).mono ?_
    clear O
    rintro e w4 ⟨rfl, O⟩
    obtain ⟨T2, hT2⟩ : ∃ T2, T2 = lebL (s.length : Int) 4 := ⟨_, rfl⟩
    have l2 : T2.length = 4 := by rw [hT2]; rfl
    rw [← hT2]
    obtain ⟨T, hT⟩ : ∃ T, T = T1 ++ T2 := ⟨_, rfl⟩
    have s1 := run_sum T1 T2 T hT (by omega)
    have s2 := run_sum T s AL (by rw [HALL.out, hT, HT1.out, hT2]; rfl) (by rw [hT, List.length_append]; omega)
    have O' := O.nilStrs
    clear hT2 hT l1 l2 O
    go_wp2_with fail
    clear s1 s2
    go_loopw [2, 9, 10] (fun sv ov iv wr => ∃ i : Nat, iv = .int .i64 i ∧ i ≤ N ∧ sv = .string ⟨(AL.drop (112 * i)).toArray⟩ ∧ Own w0 wr (strs ov (SS.take i) :: L)) (fun _ _ iv _ => N - (intOf iv).toNat)
    case atStart => exact ⟨0, rfl, by omega, by rfl, by rw [List.take_zero]; exact O'⟩
    case round =>
      clear O'
      obtain ⟨i, rfl, hi, rfl, O⟩ := hrel
      by_cases hlt : i < N
      · have hb1 : (i : Int) < (N : Int) := by omega
        obtain ⟨ts, hts⟩ : ∃ ts, ts = SS.take i := ⟨_, rfl⟩
        have hal := HAL.out
        have hmg := HMG.out
        have l1 : ts.length ≤ 1000000000 := by rw [hts, List.length_take]; omega
        rw [← hts] at O
        obtain ⟨PT, hPT⟩ : ∃ PT, PT = (AL.drop (112 * i)).take 112 := ⟨_, rfl⟩
        have hpl : PT.length ≤ 112 := by rw [hPT]; simp; omega
        have hs := HSN.out i hlt
        rw [← hPT, ← hts] at hs
        obtain ⟨R, hR⟩ : ∃ R, R = AL.drop (112 * i) := ⟨_, rfl⟩
        have hdr : AL.drop (112 * (i + 1)) = R.drop 112 := by rw [hR, List.drop_drop]; congr 1
        rw [← hR] at hPT ⊢
        have hRl : R.length ≤ 200000 := by rw [hR]; simp; omega
        have HS := Lib.hid hs
        have HTS := Lib.hid hts
        have HDR := Lib.hid hdr
        have HPT := Lib.hid hPT
        have HM := Lib.hid (show mayB age (place + i) = true from mayB_iff.2 ⟨b1, b2, by omega, by omega⟩)
        have HPE := Lib.hid (show putX age (place + i) PT = putS age (place + i) PT by unfold putX; rw [HM.out, decide_eq_true hpl]; rfl)
        have w1' : IntKind.i64.wrap (place + (i : Int)) = place + (i : Int) := i64_wraps _ (by omega) (by omega)
        have w2' : IntKind.i64.wrap ((i : Int) + 1) = (i : Int) + 1 := i64_wraps _ (by omega) (by omega)
        clear hs hts hdr hPT hR hal hmg
        by_cases hbig : 112 < R.length
        · have hb2 : (112 : Int) < (R.length : Int) := by omega
          have hp1 : PT.length = 112 := by rw [HPT.out]; simp; omega
          have hp2 : (PT.length : Int) = 112 := by omega
          have e1 : ∀ w' : World, (Instr.slice 9 (.string ⟨R.toArray⟩) none (some (.int .i64 112)) none).run Tryd.prog w' = .ok (.string ⟨PT.toArray⟩) w' := fun w' => (run_toS R 112 (by omega) w').trans (by rw [HPT.out])
          have e2 : ∀ w' : World, (Instr.slice 9 (.string ⟨R.toArray⟩) (some (.int .i64 112)) none none).run Tryd.prog w' = .ok (.string ⟨(R.drop 112).toArray⟩) w' := fun w' => run_subFrom R 112 (by omega) w'
          clear hp1
          go_wp2_with fail
          refine (putR_any O age (place + i) PT).mono ?_
          clear O e1 e2
          rintro e w5 ⟨rfl, O⟩
          rw [HPE.out]
          go_wp2_with (at_builtin; refine wpList_append_strO rfl _ _ rfl _ ts _ O rfl rfl l1 ?_)
          intro v' w6 O2
          rw [← HS.out] at O2
          clear O
          go_wp2
          exact ⟨⟨i + 1, by go_num, by omega, by rw [HDR.out], O2⟩, by simp [intOf]; omega⟩
        · have hb2 : ¬ (112 : Int) < (R.length : Int) := by omega
          have hp0 : PT = R := by rw [HPT.out, List.take_of_length_le (by omega)]
          have hd0 : R.drop 112 = R.drop R.length := by rw [List.drop_length, List.drop_of_length_le (by omega)]
          have HD0 := Lib.hid hd0
          subst hp0
          clear hd0
          have e2 : ∀ w' : World, (Instr.slice 9 (.string ⟨PT.toArray⟩) (some (.int .i64 PT.length)) none none).run Tryd.prog w' = .ok (.string ⟨(PT.drop 112).toArray⟩) w' := fun w' => (run_subFrom PT PT.length (by omega) w').trans (by rw [HD0.out])
          go_wp2_with fail
          refine (putR_any O age (place + i) PT).mono ?_
          clear O e2
          rintro e w5 ⟨rfl, O⟩
          rw [HPE.out]
          go_wp2_with (at_builtin; refine wpList_append_strO rfl _ _ rfl _ ts _ O rfl rfl l1 ?_)
          intro v' w6 O2
          rw [← HS.out] at O2
          clear O
          go_wp2
          exact ⟨⟨i + 1, by go_num, by omega, by rw [HDR.out], O2⟩, by simp [intOf]; omega⟩
      · have hb1 : ¬ (i : Int) < (N : Int) := by omega
        obtain rfl : i = N := by omega
        rw [List.take_of_length_le (by rw [HLEN.out]; omega)] at O
        go_wp2
        go_returns
        exact ⟨_, rfl, O⟩
end Go.Proofs.YtdfkjjopekceoaaDoor
