/- FrameRow: the walk. -/
import Derived.Test.YtdfkjjopekceoaaDoorFmT
import Derived.Test.YtdfkjjopekceoaaDoorSame
namespace Go.Proofs.YtdfkjjopekceoaaDoor
set_option linter.all false
open Go.RowKit

theorem wf_range {n : Int} (h : (Lit.int .i64 n).wf = true) : -9223372036854775808 ≤ n ∧ n < 9223372036854775808 := by
  simp [Lit.wf] at h
  have e : IntKind.i64.min = -9223372036854775808 := by rfl
  omega
set_option maxRecDepth 100000 in
set_option maxHeartbeats 4000000 in
theorem frameRow_walk {w : World} (age : Int) (ha : (Lit.int .i64 age).wf = true) (place : Int) (hp : (Lit.int .i64 place).wf = true) (vt : Value) (TS : List (List UInt8)) (G : List Nat) (st : StrsR w vt TS G) (bt : ∀ s ∈ TS, s.length ≤ maxLen) (gt : ∀ k ∈ G, k < w.heap.size) (ct : TS.length ≤ maxLen) :
    Calls Tryd.prog 5 #[.int .i64 age, .int .i64 place, vt] w fun e w' => e = .returned (.bool true) ∧ Below w.heap.size w w' := by
  have O := Own.start w
  have ST := Lib.hid st
  have hpr := wf_range hp
  obtain ⟨at0, capt, rfl, -⟩ := st
  clear bt gt
  obtain ⟨LEN, hLEN⟩ : ∃ LEN, LEN = TS.length := ⟨_, rfl⟩
  rw [← hLEN]
  go_enter Tryd.func5, Tryd.ntmps5
  by_cases hs3 : (40 : Int) < (LEN : Int)
  · go_wp2_with fail
    refine (awake11 O).mono ?_
    rintro e w1 ⟨rfl, O1⟩
    go_wp2
    go_returns
    exact ⟨rfl, O1.below⟩
  have HLEN := Lib.hid hLEN
  clear hLEN
  go_wp2_with fail
  refine (awake11 O).mono ?_
  clear O
  rintro e w1 ⟨rfl, O⟩
  have O0 := O.nilNums.nilStrs
  clear O
  go_wp2_with fail
  go_loopw [7, 8, 9] (fun av tv iv wr => ∃ i : Nat, iv = .int .i64 i ∧ i ≤ LEN ∧ RowOk age place TS i ∧ Own w wr [strs av (rowAll age place (TS.take i)), nums tv (atL TS i)]) (fun _ _ iv _ => LEN - (intOf iv).toNat)
  case atStart => exact ⟨0, rfl, by omega, fun j _ hj => by omega, O0⟩
  case round =>
    clear O0
    obtain ⟨i, rfl, hi, hok, O⟩ := hrel
    have hRl := rowAll_len age place (TS.take i)
    obtain ⟨RA, hRA⟩ : ∃ RA, RA = rowAll age place (TS.take i) := ⟨_, rfl⟩
    rw [← hRA] at O hRl
    obtain ⟨aA, capA, rfl⟩ := O.shape
    obtain ⟨R, hR⟩ : ∃ R, R = rowN (TS.take i) := ⟨_, rfl⟩
    rw [← hR] at hRl
    rw [hRl] at O ⊢
    obtain ⟨aT, capT, rfl⟩ := (O.pick 1).numsShape
    rw [atL_len] at O ⊢
    have hle := row_le hok (by have := HLEN.out; omega)
    rw [← hR] at hle
    have HOK := Lib.hid hok
    have HRL := Lib.hid hRl
    have HR := Lib.hid hR
    have HRA := Lib.hid hRA
    have hR0 : R ≤ 1024 := by
      rcases hle with h | h
      · rw [hR, h]; simp [rowN]
      · omega
    have hpR : -9223372036854775808 ≤ place + (R : Int) ∧ place + (R : Int) < 9223372036854775808 := by
      rcases hle with h | h
      · have : R = 0 := by rw [hR, h]; rfl
        omega
      · omega
    clear hok hRl hR hRA hle
    by_cases hlt : i < LEN
    · have hb1 : (i : Int) < (LEN : Int) := by omega
      have hil : i < TS.length := by have := HLEN.out; omega
      obtain ⟨g, off, rfl, cm⟩ := (O.came ST.out).read hil
      obtain ⟨t, ht⟩ : ∃ t, t = TS[i] := ⟨_, rfl⟩
      rw [← ht] at cm
      have HT := Lib.hid ht
      clear ht
      by_cases h3 : (3000 : Int) < (t.length : Int)
      · go_wp2
        go_returns
        exact ⟨rfl, O.below⟩
      have wR : IntKind.i64.wrap (place + (R : Int)) = place + (R : Int) := by rw [IntWalk.i64_in _ (by omega)]
      go_wp2_with fail
      refine (split_any O age (place + R) t (by omega)).mono ?_
      clear O cm
      rintro e w8 ⟨v, rfl, O⟩
      obtain ⟨F, hF⟩ : ∃ F, F = splitE age (place + R) t := ⟨_, rfl⟩
      rw [← hF]
      have HF := Lib.hid hF
      clear hF
      by_cases h2 : F = 0
      rotate_left
      · have h2a : (F != 0) = true := by simpa using h2
        obtain ⟨a, cap, rfl⟩ := O.shape
        go_wp2
        go_returns
        exact ⟨rfl, O.below⟩
      obtain ⟨r1, r2, r3⟩ := splitE_zero (HF.out.symm.trans h2)
      have hr : RecOk age (place + R) t := ⟨r1, r2⟩
      obtain ⟨q1, q2, q3, q4, q5, q6, q7⟩ := hr.bounds
      rw [r3] at O
      have hOK2 := Lib.hid (HOK.out.snoc hil (by rw [← HR.out, ← HT.out]; exact hr))
      have hAll2 := Lib.hid (rowAll_take age place TS i hil)
      rw [← HRA.out, ← HR.out, ← HT.out] at hAll2
      have hxl : (splitL age (place + R) t).length ≤ 1024 := by rw [split_len]; exact q5
      obtain ⟨XS, hXS⟩ : ∃ XS, XS = splitL age (place + R) t := ⟨_, rfl⟩
      rw [← hXS] at O hAll2 hxl
      obtain ⟨aX, capX, rfl⟩ := O.shape
      have HXL := Lib.hid hxl
      have O2 := O.sel [2, 1, 0]
      try simp only [List.map_cons, List.map_nil, List.getD_cons_zero, List.getD_cons_succ, List.eraseIdx_cons_zero, List.eraseIdx_cons_succ, List.getElem_cons_zero, List.getElem_cons_succ] at O2
      have hwi : IntKind.i64.wrap ((i : Int) + 1) = (i : Int) + 1 := i64_wraps _ (by omega) (by omega)
      clear O hXS r1 r2 r3 hr q7 hxl
      go_wp2_with (at_builtin; refine wpList_append_intO rfl _ _ rfl _ (atL TS i) R O2 rfl rfl (by rw [atL_len]; omega) ?_)
      intro v1 w9 O3
      clear O2
      have hRi : (R : Int) = ((rowN (TS.take i) : Nat) : Int) := congrArg Nat.cast HR.out
      rw [hRi, ← atL_snoc] at O3
      clear hRi
      obtain ⟨aT1, capT1, rfl⟩ := O3.numsShape
      rw [atL_len] at O3 ⊢
      have O4 := O3.sel [1, 2, 0]
      try simp only [List.map_cons, List.map_nil, List.getD_cons_zero, List.getD_cons_succ, List.eraseIdx_cons_zero, List.eraseIdx_cons_succ, List.getElem_cons_zero, List.getElem_cons_succ] at O4
      clear O3
      go_wp2_with (at_builtin; refine wpList_append_strsO rfl _ _ rfl _ RA _ XS _ O4 rfl rfl (O4.pick 1).strsR (O4.pick 1).kindS (by have := HRL.out; have := HXL.out; omega) ?_)
      intro v2 w10 O5
      have O6 := O5.sel [0, 2]
      try simp only [List.map_cons, List.map_nil, List.getD_cons_zero, List.getD_cons_succ, List.eraseIdx_cons_zero, List.eraseIdx_cons_succ, List.getElem_cons_zero, List.getElem_cons_succ] at O6
      rw [← hAll2.out] at O6
      clear O4 O5
      go_wp2
      exact ⟨⟨i + 1, by go_num, by omega, hOK2.out, O6⟩, by simp [intOf]; omega⟩
    · have hb1 : ¬ (i : Int) < (LEN : Int) := by omega
      obtain rfl : i = LEN := by omega
      have htk : TS.take i = TS := List.take_of_length_le (by have := HLEN.out; omega)
      have HAL := Lib.hid (show RA = rowAll age place TS by rw [HRA.out, htk])
      have HRT := Lib.hid (show R = rowN TS by rw [HR.out, htk])
      have HOKT := Lib.hid (show RowOk age place TS TS.length by have := HOK.out; rw [HLEN.out] at this; exact this)
      clear htk
      have O2 := O.emptyS
      clear O
      go_wp2_with (at_builtin; refine wpList_append_strsO rfl _ _ rfl _ [] _ RA _ O2 rfl rfl (O2.pick 1).strsR (O2.pick 1).kindS (by have := HRL.out; simp; omega) ?_)
      intro v3 w11 O3
      clear O2
      obtain ⟨a3, cap3, hv3⟩ := O3.shape
      have hl3 : RA.length = R := HRL.out
      rw [hl3] at hv3
      subst hv3
      replace O3 : Own w w11 [strs (.slice a3 R cap3) RA, strs (.slice aA R capA) RA, nums (.slice aT i capT) (atL TS i)] := O3
      clear hl3
      go_wp2_with fail
      go_loopw [13] (fun iv wr => ∃ j : Nat, iv = .int .i64 j ∧ j ≤ i ∧ Own w wr [strs (.slice a3 R cap3) RA, strs (.slice aA R capA) RA, nums (.slice aT i capT) (atL TS i)]) (fun iv _ => i - (intOf iv).toNat)
      case atStart => exact ⟨0, rfl, by omega, O3⟩
      case round =>
        clear O3
        obtain ⟨j, rfl, hj, O⟩ := hrel
        by_cases hlt : j < i
        · have hb2 : (j : Int) < (i : Int) := by omega
          have hjl : j < TS.length := by have := HLEN.out; omega
          obtain ⟨g, off, rfl, cm⟩ := (O.came ST.out).read hjl
          clear cm
          obtain ⟨ga, rfl, ct1, -⟩ := (O.pick 2).numsAt j (by rw [atL_len]; omega)
          rw [atL_at] at ct1
          obtain ⟨j1, j2, j3⟩ := row_join HOKT.out j hjl
          have hbd := (HOKT.out j hjl hjl).bounds
          have hnx := rowN_take TS j hjl
          rw [← HAL.out] at j1 j2 j3
          obtain ⟨RJ, hRJ⟩ : ∃ RJ, RJ = rowN (TS.take j) := ⟨_, rfl⟩
          obtain ⟨t, ht⟩ : ∃ t, t = TS[j] := ⟨_, rfl⟩
          obtain ⟨M, hM⟩ : ∃ M, M = manyN t.length := ⟨_, rfl⟩
          rw [← hRJ] at ct1 j1 j2 j3 hbd hnx
          rw [← ht, ← hM] at hbd hnx
          rw [← ht] at j2 j3
          rw [← hM] at j3
          have hRJR : RJ < R := by
            rw [← HRL.out]
            rcases Nat.lt_or_ge RJ RA.length with h | h
            · exact h
            · rw [List.drop_of_length_le h] at j1; cases j1
          obtain ⟨gA, rfl⟩ : ∃ gA, aA = some ⟨gA, 0, none⟩ := by
            obtain ⟨gA, cA, e⟩ := (O.pick 1).shapePos (by have := HRL.out; omega)
            simp only [Value.slice.injEq] at e
            exact ⟨gA, e.1⟩
          obtain ⟨o, e1, S1⟩ := (O.drew.pick 1).strsR.fromS (O.pick 1).capS RJ (by omega)
          have J1 := Lib.hid j1
          have J2 := Lib.hid j2
          have J3 := Lib.hid j3
          have HTJ := Lib.hid ht
          have OD := Lib.hid O.drew
          have hlen : (RA.drop RJ).length ≤ 1000000000 := by have := HRL.out; simp; omega
          have wp1 : IntKind.i64.wrap (place + (RJ : Int)) = place + (RJ : Int) := i64_wraps _ (by omega) (by omega)
          have wp2 : IntKind.i64.wrap ((RJ : Int) + (M : Int)) = (RJ : Int) + (M : Int) := i64_wraps _ (by omega) (by omega)
          have wp3 : IntKind.i64.wrap ((j : Int) + 1) = (j : Int) + 1 := i64_wraps _ (by omega) (by omega)
          have k1 : wr.drew.cell? ⟨ga, j, none⟩ = some (.int .i64 (RJ : Int)) := ct1
          have HNX := Lib.hid hnx
          have HMM := Lib.hid hM
          clear j1 j2 j3 ht hM hnx O hRJ ct1 hbd
          go_upto_region 19 with fail
          go_region_held3 (fun w' => w'.cell? ⟨ga, j, none⟩ = some (.int .i64 (RJ : Int)))
            (first
              | with_reducible exact k1
              | with_reducible exact k2)
            (first
              | (go_at_call 15; (with_reducible refine (join_chg S1 age (place + (RJ : Int)) hlen).mono ?_); rintro e w12 ⟨rfl, oj⟩; (have k2 := oj.chg.cell k1 (by simp)); (have O5 := OD.out.pure oj.chg); (rw [joinV_true J1.out, J2.out, J3.out])))
          clear k1 e1 S1 OD
          obtain ⟨g', off', e', cm⟩ := (O5.came ST.out).read hjl
          simp only [Option.some.injEq, Addr.mk.injEq, and_true] at e'
          obtain ⟨rfl, rfl⟩ := e'
          rw [← HTJ.out] at cm
          have OF := Lib.hid O5
          by_cases hlast : (j : Int) + 1 < (i : Int)
          · obtain ⟨ga', e2, ct2, -⟩ := (O5.pick 2).numsAt (j + 1) (by rw [atL_len]; omega)
            simp only [Option.some.injEq, Addr.mk.injEq, and_true] at e2
            subst e2
            rw [atL_at, HNX.out] at ct2
            have ct3 : w12.cell? ⟨ga, j + 1, none⟩ = some (.int .i64 ((RJ : Int) + (M : Int))) := by rw [ct2]; push_cast; rfl
            clear ct2 O5
            go_wp2
            exact ⟨⟨j + 1, by go_num, by omega, OF.out⟩, by simp [intOf]; omega⟩
          · have hRE : ((RJ : Int) + (M : Int)) = (R : Int) := by
              have h1 := HNX.out
              have h2 := HRT.out
              have h3 := HMM.out
              rw [List.take_of_length_le (by have := HLEN.out; omega)] at h1
              omega
            clear O5
            go_wp2
            exact ⟨⟨j + 1, by go_num, by omega, OF.out⟩, by simp [intOf]; omega⟩
        · have hb2 : ¬ (j : Int) < (i : Int) := by omega
          have hsA := (O.pick 1).strsR
          have hsB := O.strsR
          go_wp2_with fail
          refine (same_any _ _ _ RA RA _ _ hsA hsB (by have := HRL.out; omega) true (by simp)).mono ?_
          rintro e w13 ⟨rfl, n, rfl⟩
          have FIN := (O.drewN n).below
          go_wp2
          go_returns
          exact ⟨rfl, FIN⟩
end Go.Proofs.YtdfkjjopekceoaaDoor
