/- frame: Split. -/
import Derived.Test.YtnlppcjfpmnahaaGreatDoorFmE
import Derived.Test.YtnlppcjfpmnahaaGreatDoorFmQ
namespace Go.Proofs.YtnlppcjfpmnahaaGreatDoor
set_option linter.all false
open Go.RowKit

theorem split_bad (age place : Int) (s : List UInt8) (h : mayB age place = false) (hl : s.length ≤ 140737488351232) (w : World) :
    Calls Tryz.prog 54 #[.int .i64 age, .int .i64 place, .string ⟨s.toArray⟩] w fun e w' => e = .returned (.tuple #[.slice none 0 0, .int .i64 1]) ∧ w = w' := by
  have H := Lib.hid h
  clear h
  go_enter Tryz.func54, Tryz.ntmps54
  go_wp2_with fail
  refine (many_nat s.length (by omega) _).mono ?_
  rintro e w1 ⟨rfl, rfl⟩
  go_wp2_with fail
  refine (may11_any age place _).mono ?_
  rw [H.out]
  rintro e w1 ⟨rfl, rfl⟩
  go_wp2
  go_returns
  exact ⟨rfl, rfl⟩
theorem split_long (age place : Int) (s : List UInt8) (h : mayB age place = true) (hl : s.length ≤ 140737488351232) (hn : 1024 - place < (manyN s.length : Int)) (w : World) :
    Calls Tryz.prog 54 #[.int .i64 age, .int .i64 place, .string ⟨s.toArray⟩] w fun e w' => e = .returned (.tuple #[.slice none 0 0, .int .i64 40]) ∧ w = w' := by
  obtain ⟨-, -, hp1, hp2⟩ := mayB_iff.1 h
  have hw := i64_wraps (1024 - place) (by omega) (by omega)
  have H := Lib.hid h
  clear h
  go_enter Tryz.func54, Tryz.ntmps54
  go_wp2_with fail
  refine (many_nat s.length (by omega) _).mono ?_
  rintro e w1 ⟨rfl, rfl⟩
  go_wp2_with fail
  refine (may11_any age place _).mono ?_
  rw [H.out]
  rintro e w1 ⟨rfl, rfl⟩
  go_wp2
  go_returns
  exact ⟨rfl, rfl⟩
def SplitPost (w0 : World) (L : List Piece) (ss : List (List UInt8)) (e : Ending) (w' : World) : Prop := ∃ v, e = .returned (.tuple #[v, .int .i64 0]) ∧ Own w0 w' (strs v ss :: L)
set_option maxRecDepth 100000 in
set_option maxHeartbeats 2000000 in
theorem split_own {w0 w : World} {L : List Piece} (O : Own w0 w L) (age place : Int) (s : List UInt8) (h : mayB age place = true) (hl : s.length ≤ 140737488351232) (hn : (manyN s.length : Int) ≤ 1024 - place) :
    Calls Tryz.prog 54 #[.int .i64 age, .int .i64 place, .string ⟨s.toArray⟩] w (SplitPost w0 L (splitL age place s)) := by
  obtain ⟨ha1, ha2, hp1, hp2⟩ := mayB_iff.1 h
  have hw := i64_wraps (1024 - place) (by omega) (by omega)
  have hmp := many_pos s.length
  have hml := many_le s.length
  have hmg := many_ge s.length
  have hlen := split_len age place s
  have hall : allL s = hdrL (manyN s.length) s.length ++ s := rfl
  have hallen := allL_len s
  have hsn := fun i hi => split_snoc age place s i hi
  obtain ⟨SS, hSS⟩ : ∃ SS, SS = splitL age place s := ⟨_, rfl⟩
  obtain ⟨N, hN⟩ : ∃ N, N = manyN s.length := ⟨_, rfl⟩
  obtain ⟨AL, hAL⟩ : ∃ AL, AL = allL s := ⟨_, rfl⟩
  rw [← hN] at hn hmp hml hmg hlen hall hsn
  rw [← hAL] at hall hallen hsn
  rw [← hSS] at hlen hsn ⊢
  have H := Lib.hid h
  have HALL := Lib.hid hall
  have HSN := Lib.hid hsn
  have HLEN := Lib.hid hlen
  have HN := Lib.hid hN
  have HMG := Lib.hid hmg
  have hn' : ¬ (1024 - place) < (N : Int) := by omega
  clear h hall hsn hlen hN hSS hAL hmg
  go_enter Tryz.func54, Tryz.ntmps54
  go_wp2_with fail
  refine (many_nat s.length (by omega) _).mono ?_
  rw [← HN.out]
  rintro e w1 ⟨rfl, rfl⟩
  go_wp2_with fail
  refine (may11_any age place _).mono ?_
  rw [H.out]
  rintro e w1 ⟨rfl, rfl⟩
  have O1 := O.newBox (U8 (List.replicate 6 0)) 119
  obtain ⟨b, hbz⟩ : ∃ b, b = w.heap.size := ⟨_, rfl⟩
  rw [← hbz] at O1
  clear O
  go_wp2_with fail
  rw [← hbz]
  refine (put_own O1 0 2 2 (by simp) (by omega) N).mono ?_
  clear O1 hbz
  rintro e w2 ⟨rfl, O⟩
  go_wp2_with fail
  refine (put_own O 2 4 4 (by rw [putAt_len]; simp) (by omega) s.length).mono ?_
  clear O
  rintro e w3 ⟨rfl, O⟩
  obtain ⟨T, hT⟩ : ∃ T, T = hdrL N s.length := ⟨_, rfl⟩
  have hTl : T.length = 6 := by rw [hT]; rfl
  replace O : Own w0 w3 (box b (U8 T) 119 :: L) := by rw [hT]; exact O
  have kc := O.boxBytes 0 6 6 (by omega)
  rw [List.drop_zero, List.take_of_length_le (by omega)] at kc
  have e1 : AL = T ++ s := by rw [hT]; exact HALL.out
  have sm : (Op.stringOp .add ⟨T.toArray⟩ ⟨s.toArray⟩).run Tryz.prog w3 = .ok (.string ⟨AL.toArray⟩) w3 := by
    rw [run_string_add_sum _ _ _ (by show T.length + s.length ≤ _; omega), mk_append, e1]
  have O' := O.drop.nilStrs
  clear O hT e1
  go_wp2_with fail
  have HAL := Lib.hid hallen
  clear sm kc hTl hallen
  go_loopw [11, 40] (fun ov iv wr => ∃ i : Nat, iv = .int .i64 i ∧ i ≤ N ∧ Own w0 wr (strs ov (SS.take i) :: L)) (fun _ iv _ => N - (intOf iv).toNat)
  case atStart => exact ⟨0, rfl, by omega, by rw [List.take_zero]; exact O'⟩
  case round =>
    clear O'
    obtain ⟨i, rfl, hi, O⟩ := hrel
    by_cases hlt : i < N
    · have hb1 : (i : Int) < (N : Int) := by omega
      obtain ⟨l1, l2⟩ : (SS.take i).length ≤ 1000000000 ∧ True := ⟨by simp; omega, trivial⟩
      obtain ⟨ts, hts⟩ : ∃ ts, ts = SS.take i := ⟨_, rfl⟩
      rw [← hts] at O l1
      obtain ⟨PT, hPT⟩ : ∃ PT, PT = (AL.drop (112 * i)).take 112 := ⟨_, rfl⟩
      have hpl : PT.length ≤ 112 := by rw [hPT]; simp; omega
      have hmg := HMG.out
      have hallen := HAL.out
      have hlo : 112 * i ≤ AL.length := by omega
      obtain ⟨J, hJ⟩ : ∃ J : Nat, J = min AL.length (112 * (i + 1)) := ⟨_, rfl⟩
      obtain ⟨B, hB⟩ : ∃ B : Nat, B = i * 112 := ⟨_, rfl⟩
      have E1 : (⟨AL.toArray⟩ : ByteArray).extract B J = ⟨PT.toArray⟩ := by
        rw [mk_extract]
        refine congrArg (fun l : List UInt8 => (⟨l.toArray⟩ : ByteArray)) ?_
        rw [hPT, hJ, hB, Nat.mul_comm i 112, List.drop_take]
        by_cases q : AL.length ≤ 112 * (i + 1)
        · rw [Nat.min_eq_left q, List.take_of_length_le (by simp), List.take_of_length_le (by simp; omega)]
        · rw [Nat.min_eq_right (by omega), show 112 * (i + 1) - 112 * i = 112 by omega]
      have hs := HSN.out i hlt
      rw [← hPT, ← hts] at hs
      have HS := Lib.hid hs
      have HTS := Lib.hid hts
      have hmay : mayB age (place + i) = true := mayB_iff.2 ⟨ha1, ha2, by omega, by omega⟩
      have HM := Lib.hid hmay
      have w1' : IntKind.i64.wrap (place + i) = place + i := i64_wraps _ (by omega) (by omega)
      have w2' : IntKind.i64.wrap ((i : Int) * 112) = (B : Int) := by rw [i64_wraps _ (by omega) (by omega)]; omega
      have w3' : IntKind.i64.wrap ((i : Int) + 1) = (i : Int) + 1 := i64_wraps _ (by omega) (by omega)
      have w4' : IntKind.i64.wrap (((i : Int) + 1) * 112) = ((i : Int) + 1) * 112 := i64_wraps _ (by omega) (by omega)
      have w5' : min (AL.length : Int) (((i : Int) + 1) * 112) = (J : Int) := by omega
      have j1 : B ≤ J := by omega
      have j2 : J ≤ AL.length := by omega
      clear hs hts hmay hlo hmg hPT hJ hallen hB
      go_wp2_with fail
      refine (put11_own O age (place + i) PT HM.out hpl).mono ?_
      clear O E1 w1' w2' w3' w4' w5' j1 j2
      rintro e w4 ⟨rfl, O⟩
      go_wp2_with (at_builtin; refine wpList_append_strO rfl _ _ rfl _ ts _ O rfl rfl l1 ?_)
      intro v' w5 O2
      rw [← HS.out] at O2
      have w3' : IntKind.i64.wrap ((i : Int) + 1) = (i : Int) + 1 := i64_wraps _ (by omega) (by omega)
      clear O
      go_wp2
      exact ⟨⟨i + 1, by go_num, by omega, O2⟩, by simp [intOf]; omega⟩
    · have hb1 : ¬ (i : Int) < (N : Int) := by omega
      obtain rfl : i = N := by omega
      rw [List.take_of_length_le (by rw [HLEN.out]; omega)] at O
      go_wp2
      go_returns
      exact ⟨_, rfl, O⟩
end Go.Proofs.YtnlppcjfpmnahaaGreatDoor
