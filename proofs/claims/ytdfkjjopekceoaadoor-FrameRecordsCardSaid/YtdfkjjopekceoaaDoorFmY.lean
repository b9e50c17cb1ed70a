/- frame: the document's Join. -/
import Derived.Test.YtdfkjjopekceoaaDoorFmX
namespace Go.Proofs.YtdfkjjopekceoaaDoor
set_option linter.all false
open Go.RowKit

theorem run_sumL (a b : List UInt8) (c : List UInt8) (h : c = a ++ b) (hl : a.length + b.length ≤ 1000000000) (w : World) : (Op.stringOp .add ⟨a.toArray⟩ ⟨b.toArray⟩).run Tryd.prog w = .ok (.string ⟨c.toArray⟩) w := by
  rw [run_string_add_sum _ _ _ (by show a.length + b.length ≤ _; omega), mk_append, h]
theorem zero_snoc (l : List UInt8) (b j : Nat) (hb : b ≤ j) (hj : j < l.length) : zeroB ((l.take (j + 1)).drop b) = (zeroB ((l.take j).drop b) && l[j] == 0) := by
  rw [List.take_succ_eq_append_getElem hj, List.drop_append_of_le_length (by simp; omega)]
  unfold zeroB
  rw [List.all_append]
  simp
theorem zero_not (l : List UInt8) (b j : Nat) (hb : b ≤ j) (hj : j < l.length) (h : ¬ l[j] = 0) : zeroB (l.drop b) = false := by
  cases e : zeroB (l.drop b) with
  | false => rfl
  | true =>
    unfold zeroB at e
    rw [List.all_eq_true] at e
    have hm : l[j] ∈ l.drop b := by
      rw [List.mem_drop_iff_getElem]
      exact ⟨j - b, by omega, by congr 1; omega⟩
    have := e _ hm
    exact absurd (by simpa using this) h
set_option maxRecDepth 100000 in
set_option maxHeartbeats 4000000 in
theorem joinR_chg {w : World} {v : Value} {ss : List (List UInt8)} {G : List Nat} (hv : StrsR w v ss G) (age place : Int) (hn : ss.length ≤ 1000000000) :
    Calls Tryd.prog 16 #[v, .int .i64 age, .int .i64 place] w fun e w' => e = .returned (joinV age place ss) ∧ Own w w' [] := by
  have HV := Lib.hid hv
  obtain ⟨a, cap, rfl, -⟩ := hv
  have O := Own.start w
  obtain ⟨LEN, hLEN⟩ : ∃ LEN, LEN = ss.length := ⟨_, rfl⟩
  rw [← hLEN] at hn
  rw [← hLEN]
  have HLE := Lib.hid hLEN
  obtain ⟨RV, hRV⟩ : ∃ RV, RV = joinV age place ss := ⟨_, rfl⟩
  rw [← hRV]
  have HRV := Lib.hid hRV
  clear hRV
  by_cases h0 : LEN = 0
  · have hss : ss = [] := List.eq_nil_of_length_eq_zero (by omega)
    have HJ := Lib.hid (show joinB age place ss = false by rw [hss]; rfl)
    have h0' : (LEN : Int) = 0 := by omega
    clear hLEN hss
    go_enter Tryd.func16, Tryd.ntmps16
    go_wp2
    go_returns
    exact ⟨by rw [HRV.out, joinV_false HJ.out]; rfl, O⟩
  have h0' : ¬ (LEN : Int) = 0 := by omega
  have h0'' : 0 < LEN := by omega
  have hl0 : 0 < ss.length := by omega
  obtain ⟨g, off, rfl, cm⟩ := HV.out.read (k := 0) hl0
  obtain ⟨x, hx⟩ : ∃ x, x = ss[0] := ⟨_, rfl⟩
  rw [← hx] at cm
  rw [Nat.add_zero] at cm
  have HJM := Lib.hid (show joinM ss = joinN x by
    match ss, hl0, hx with
    | y :: r, _, e => subst e; rfl)
  have HJB := Lib.hid (show joinB age place ss = (getB x && (decide (manyN (joinZ x) = joinN x) && (decide (joinN x ≤ LEN) && (allOk age place 0 (ss.take (joinN x)) && zeroB ((textOf (ss.take (joinN x))).drop (6 + joinZ x)))))) by
    rw [hLEN]
    match ss, hl0, hx with
    | y :: r, _, e => subst e; rfl)
  have HJT := Lib.hid (show joinT ss = ((textOf (ss.take (joinN x))).drop 6).take (joinZ x) by
    match ss, hl0, hx with
    | y :: r, _, e => subst e; rfl)
  clear hLEN hx h0 hl0
  go_enter Tryd.func16, Tryd.ntmps16
  go_wp2_with fail
  refine (getR_any O x).mono ?_
  clear O cm
  rintro e w2 ⟨rfl, O⟩
  cases hb : getB x with
  | false =>
    have HJ := Lib.hid (show joinB age place ss = false by rw [HJB.out, hb]; rfl)
    rw [getV_false hb]
    clear hb
    go_wp2
    go_returns
    exact ⟨by rw [HRV.out, joinV_false HJ.out]; rfl, O⟩
  | true =>
    rw [getV_true hb]
    have hFl := getT_len hb
    obtain ⟨F, hF⟩ : ∃ F, F = getT x := ⟨_, rfl⟩
    rw [← hF] at hFl ⊢
    have e1 : ∀ w' : World, (Instr.slice 9 (.string ⟨F.toArray⟩) none (some (.int .i64 2)) none).run Tryd.prog w' = .ok (.string ⟨(F.take 2).toArray⟩) w' := fun w' => run_toS F 2 (by omega) w'
    have e2 : ∀ w' : World, (Instr.slice 9 (.string ⟨F.toArray⟩) (some (.int .i64 2)) (some (.int .i64 6)) none).run Tryd.prog w' = .ok (.string ⟨((F.drop 2).take 4).toArray⟩) w' := fun w' => run_sub F 2 6 (by omega) (by omega) w'
    obtain ⟨N, hN⟩ : ∃ N, N = numL (F.take 2) := ⟨_, rfl⟩
    obtain ⟨Z, hZ⟩ : ∃ Z, Z = numL ((F.drop 2).take 4) := ⟨_, rfl⟩
    have N1 := numberQ (F.take 2) (by simp; omega)
    have N2 := numberQ ((F.drop 2).take 4) (by simp; omega)
    have hNl : N < 65536 := by
      have h := numL_lt (F.take 2)
      have h2 : 2 ^ (8 * (F.take 2).length) ≤ 2 ^ 16 := Nat.pow_le_pow_right (by omega) (by simp; omega)
      rw [hN]; omega
    have hZl : Z < 4294967296 := by
      have h := numL_lt ((F.drop 2).take 4)
      have h2 : 2 ^ (8 * ((F.drop 2).take 4).length) ≤ 2 ^ 32 := Nat.pow_le_pow_right (by omega) (by simp; omega)
      rw [hZ]; omega
    rw [← hN] at N1
    rw [← hZ] at N2
    have HN := Lib.hid (show joinN x = N by rw [hN, hF]; rfl)
    have HZ := Lib.hid (show joinZ x = Z by rw [hZ, hF]; rfl)
    have HB := Lib.hid hb
    rw [HB.out, HN.out, HZ.out] at HJB
    rw [HN.out] at HJM
    rw [HN.out, HZ.out] at HJT
    have HN1 := Lib.hid N1
    have HN2 := Lib.hid N2
    clear hN hZ N1 N2 hF hFl hb
    go_wp2_with fail
    go_quiet (first
      | (go_at_call 30; with_reducible exact Calls.quiet_of_same (HN1.out _))
      | (go_at_call 30; with_reducible exact Calls.quiet_of_same (HN2.out _)))
    have OD : Own w (w2.drewN nq) [] := O.drewN nq
    clear O
    generalize w2.drewN nq = W at OD ⊢
    clear e1 e2
    go_wp2_with fail
    refine (manyR_nat Z (by omega) _).mono ?_
    rintro e w3 ⟨rfl, rfl⟩
    by_cases q1 : manyN Z = N
    rotate_left
    · have HJ := Lib.hid (show joinB age place ss = false by rw [HJB.out, decide_eq_false q1]; simp)
      have q2 : ((manyN Z : Int) != (N : Int)) = true := by simp; omega
      go_wp2
      go_returns
      exact ⟨by rw [HRV.out, joinV_false HJ.out]; rfl, OD⟩
    by_cases q3 : N ≤ LEN
    rotate_left
    · have HJ := Lib.hid (show joinB age place ss = false by rw [HJB.out, decide_eq_false q3]; simp)
      have q4 : (LEN : Int) < (N : Int) := by omega
      have q1' : (manyN Z : Int) = (N : Int) := by omega
      clear q1
      go_wp2
      go_returns
      exact ⟨by rw [HRV.out, joinV_false HJ.out]; rfl, OD⟩
    have q4 : ¬ (LEN : Int) < (N : Int) := by omega
    have q1' : (manyN Z : Int) = (N : Int) := by omega
    have q4' : decide (LEN < N) = false := decide_eq_false (by omega)
    have hml := many_le Z
    rw [q1] at hml
    rw [decide_eq_true q1, decide_eq_true q3, Bool.true_and, Bool.true_and, Bool.true_and] at HJB
    clear q1
    go_wp2_with fail
    clear q1' q4 q4'
    go_loopw [15, 16] (fun sv iv wr => ∃ i : Nat, iv = .int .i64 i ∧ i ≤ N ∧ sv = .string ⟨(textOf (ss.take i)).toArray⟩ ∧ allOk age place 0 (ss.take i) = true ∧ Own w wr []) (fun _ iv _ => N - (intOf iv).toNat)
    case atStart => exact ⟨0, rfl, by omega, by rfl, by rfl, OD⟩
    case round =>
      clear OD
      obtain ⟨i, rfl, hi, rfl, hok, O⟩ := hrel
      by_cases hlt : i < N
      · have hb1 : (i : Int) < (N : Int) := by omega
        have hb2 : (i : Int) < (LEN : Int) := by omega
        have hli : i < ss.length := by have := HLE.out; omega
        obtain ⟨g', off', e', cm⟩ := (O.came HV.out).read hli
        simp only [Option.some.injEq, Addr.mk.injEq, and_true] at e'
        obtain ⟨rfl, rfl⟩ := e'
        obtain ⟨y, hy⟩ : ∃ y, y = ss[i] := ⟨_, rfl⟩
        rw [← hy] at cm
        have HY := Lib.hid hy
        obtain ⟨TX, hTX⟩ : ∃ TX, TX = textOf (ss.take i) := ⟨_, rfl⟩
        have HTL := Lib.hid (show TX.length = 112 * i by rw [hTX, textOf_len hok, List.length_take, Nat.min_eq_left (by omega)])
        rw [← hTX]
        have HTX := Lib.hid hTX
        have HOK := Lib.hid hok
        have hNN : i = 0 ∨ i < joinM ss := by right; rw [HJM.out]; exact hlt
        have HNN := Lib.hid hNN
        clear hy hTX hok hNN
        go_wp2_with fail
        refine (getR_any O y).mono ?_
        clear cm O
        rintro e w4 ⟨rfl, O⟩
        cases hc : getB y with
        | false =>
          have HJ := Lib.hid (join_bad (age := age) (place := place) hli HNN.out (by rw [← HY.out]; unfold okAt; rw [hc]; rfl))
          rw [getV_false hc]
          clear hc
          go_wp2
          go_returns
          exact ⟨by rw [HRV.out, joinV_false HJ.out]; rfl, O⟩
        | true =>
          rw [getV_true hc]
          obtain ⟨A, hA0⟩ : ∃ A : Int, A = (getA y : Int) := ⟨_, rfl⟩
          obtain ⟨P, hP0⟩ : ∃ P : Int, P = (getP y : Int) := ⟨_, rfl⟩
          rw [← hA0, ← hP0]
          have HOKX := Lib.hid (show okAt age place i ss[i] = (decide (A = age) && decide (P = wrap64 (place + i))) by
            rw [← HY.out, hA0, hP0]; unfold okAt; rw [hc]; rfl)
          have HC := Lib.hid hc
          clear hA0 hP0 hc
          by_cases hA : A = age
          rotate_left
          · have HJ := Lib.hid (join_bad (age := age) (place := place) hli HNN.out (by rw [HOKX.out, decide_eq_false hA]; rfl))
            have hA1 : (A == age) = false := by simpa using hA
            have hA2 : (A != age) = true := by simpa using hA
            go_wp2
            go_returns
            exact ⟨by rw [HRV.out, joinV_false HJ.out]; rfl, O⟩
          by_cases hP : P = wrap64 (place + i)
          rotate_left
          · have HJ := Lib.hid (join_bad (age := age) (place := place) hli HNN.out (by rw [HOKX.out, decide_eq_false hP]; simp))
            have hP2 : (P != wrap64 (place + i)) = true := by simpa using hP
            go_wp2
            go_returns
            exact ⟨by rw [HRV.out, joinV_false HJ.out]; rfl, O⟩
          have HOKY := Lib.hid (show okAt age place i ss[i] = true by rw [HOKX.out, decide_eq_true hA, decide_eq_true hP]; rfl)
          obtain ⟨TY, hTY⟩ : ∃ TY, TY = TX ++ getT y := ⟨_, rfl⟩
          have sm := run_sumL TX (getT y) TY hTY (by rw [HTL.out, getT_len HC.out]; omega)
          have HTY := Lib.hid (show TY = textOf (ss.take (i + 1)) by rw [hTY, HTX.out, HY.out, textOf_snoc hli])
          have HOK1 := Lib.hid (show allOk age place 0 (ss.take (i + 1)) = true by rw [allOk_snoc hli, HOK.out, HOKY.out]; rfl)
          have wi : IntKind.i64.wrap ((i : Int) + 1) = (i : Int) + 1 := i64_wraps _ (by omega) (by omega)
          clear hTY HOKX
          go_wp2
          go_roundw
          case rel => exact ⟨i + 1, by go_num, by omega, by rw [HTY.out], HOK1.out, O⟩
          case measure => simp [intOf]; omega
      · have hb1 : ¬ (i : Int) < (N : Int) := by omega
        obtain rfl : i = N := by omega
        obtain ⟨ALL, hALL⟩ : ∃ ALL, ALL = textOf (ss.take i) := ⟨_, rfl⟩
        have hal : ALL.length = 112 * i := by rw [hALL, textOf_len hok, List.length_take, Nat.min_eq_left (by have := HLE.out; omega)]
        rw [hok, ← hALL, Bool.true_and] at HJB
        rw [← hALL] at HJT ⊢
        obtain ⟨C, hC⟩ : ∃ C, C = 6 + Z := ⟨_, rfl⟩
        rw [← hC] at HJB
        have hCl : C ≤ ALL.length := by omega
        have hC1 : 6 + (Z : Int) = (C : Int) := by omega
        have hwC : IntKind.i64.wrap (C : Int) = (C : Int) := i64_wraps _ (by omega) (by omega)
        have e4 : ∀ w' : World, (Instr.slice 9 (.string ⟨ALL.toArray⟩) (some (.int .i64 6)) (some (.int .i64 C)) none).run Tryd.prog w' = .ok (.string ⟨((ALL.drop 6).take Z).toArray⟩) w' := fun w' => (run_sub ALL 6 C (by omega) (by omega) w').trans (by rw [hC, Nat.add_sub_cancel_left])
        have hAb : ALL.length ≤ 10000000 := by omega
        clear hALL hok hC hal hml
        go_wp2_with fail
        go_loopw [21] (fun iv wr => ∃ j : Nat, iv = .int .i64 j ∧ C ≤ j ∧ j ≤ ALL.length ∧ zeroB ((ALL.take j).drop C) = true ∧ Own w wr []) (fun iv _ => ALL.length - (intOf iv).toNat)
        case atStart => exact ⟨C, rfl, by omega, hCl, by rw [List.drop_of_length_le (by simp; omega)]; rfl, O⟩
        case round =>
          clear O
          obtain ⟨j, rfl, hj1, hj2, hz, O⟩ := hrel
          by_cases hlt2 : j < ALL.length
          · have hb3 : (j : Int) < (ALL.length : Int) := by omega
            have HS := Lib.hid (zero_snoc ALL C j hj1 hlt2)
            have HZ2 := Lib.hid hz
            have HNZ := Lib.hid (zero_not ALL C j hj1 hlt2)
            have wj : IntKind.i64.wrap ((j : Int) + 1) = (j : Int) + 1 := i64_wraps _ (by omega) (by omega)
            clear hz e4
            by_cases hc : ALL[j] = 0
            · have HK := Lib.hid (show zeroB ((ALL.take (j + 1)).drop C) = true by rw [HS.out, HZ2.out, hc]; rfl)
              go_wp2
              exact ⟨⟨j + 1, by go_num, by omega, by omega, HK.out, O⟩, by simp [intOf]; omega⟩
            · have HJ := Lib.hid (show joinB age place ss = false by rw [HJB.out]; exact HNZ.out hc)
              have hc2 : ¬ ALL[j].toNat = 0 := fun h => hc (by rw [← UInt8.toNat_inj]; exact h)
              have hc3 : ((ALL[j].toNat : Int) != 0) = true := by simp; exact hc2
              go_wp2
              go_returns
              exact ⟨by rw [HRV.out, joinV_false HJ.out]; rfl, O⟩
          · have hb3 : ¬ (j : Int) < (ALL.length : Int) := by omega
            have HJ := Lib.hid (show joinB age place ss = true by
              rw [HJB.out, ← hz, List.take_of_length_le (by omega)])
            clear hz
            go_wp2
            go_returns
            exact ⟨by rw [HRV.out, joinV_true HJ.out, HJT.out, HJM.out]; rfl, O⟩
end Go.Proofs.YtdfkjjopekceoaaDoor
