/- FrameGone: the walk. -/
import Derived.Test.YtdfkjjopekceoaaDoorFmS
namespace Go.Proofs.YtdfkjjopekceoaaDoor
set_option linter.all false
open Go.RowKit

theorem modLen (n : Int) (N : Nat) (h1 : 1 ≤ N) (h2 : N ≤ 1024) : ∃ K : Nat, wrap64 ((IntKind.u64.wrap n).tmod (N : Int)) = (K : Int) ∧ K < N := by
  have h0 : 0 ≤ IntKind.u64.wrap n := by
    simp [IntKind.wrap, IntKind.bits, IntKind.signed]
    omega
  generalize IntKind.u64.wrap n = m at h0
  have a1 : 0 ≤ m % (N : Int) := Int.emod_nonneg _ (by omega)
  have a2 : m % (N : Int) < (N : Int) := Int.emod_lt_of_pos _ (by omega)
  rw [Int.tmod_eq_emod_of_nonneg h0, IntWalk.wrap64_in _ (by omega)]
  exact ⟨(m % (N : Int)).toNat, by omega, by omega⟩
theorem u64_small (n : Nat) (h : n ≤ 1000000) : IntKind.u64.wrap (n : Int) = (n : Int) := by
  simp [IntKind.wrap, IntKind.bits, IntKind.signed]
  omega
set_option maxRecDepth 100000 in
set_option maxHeartbeats 4000000 in
theorem frameGone_walk {w : World} (age : Int) (ha : (Lit.int .i64 age).wf = true) (place : Int) (hp : (Lit.int .i64 place).wf = true) (s : List UInt8) (hs : s.length ≤ 140737488351232) (wh : Int) (hwh : (Lit.int .i64 wh).wf = true) (x : List UInt8) (hx : x.length ≤ 140737488351232) :
    Calls Tryd.prog 4 #[.int .i64 age, .int .i64 place, .string ⟨s.toArray⟩, .int .i64 wh, .string ⟨x.toArray⟩] w fun e w' => e = .returned (.bool true) ∧ Below w.heap.size w w' := by
  have O := Own.start w
  go_enter Tryd.func4, Tryd.ntmps4
  by_cases hs3 : (5000 : Int) < (s.length : Int)
  · go_wp2_with fail
    refine (awake11 O).mono ?_
    rintro e w1 ⟨rfl, O1⟩
    go_wp2
    go_returns
    exact ⟨rfl, O1.below⟩
  by_cases hb3 : (300 : Int) < (x.length : Int)
  · go_wp2_with fail
    refine (awake11 O).mono ?_
    rintro e w1 ⟨rfl, O1⟩
    go_wp2
    go_returns
    exact ⟨rfl, O1.below⟩
  go_wp2_with fail
  refine (awake11 O).mono ?_
  clear O
  rintro e w1 ⟨rfl, O⟩
  go_wp2_with fail
  refine (split_any O age place s hs).mono ?_
  clear O
  rintro e w8 ⟨v, rfl, O⟩
  obtain ⟨F, hF⟩ : ∃ F, F = splitE age place s := ⟨_, rfl⟩
  rw [← hF]
  have HF := Lib.hid hF
  clear hF
  by_cases h2 : F = 0
  rotate_left
  · have h2a : (F != 0) = true := by simpa using h2
    obtain ⟨a, cap, rfl⟩ := O.shape
    go_wp2
    go_returns
    exact ⟨rfl, O.below⟩
  obtain ⟨r1, r2, r3⟩ := splitE_zero (HF.out.symm.trans h2)
  have hr : RecOk age place s := ⟨r1, r2⟩
  have HR := Lib.hid hr
  obtain ⟨q1, q2, q3, q4, q5, q6, q7⟩ := hr.bounds
  rw [r3] at O
  obtain ⟨SS, hSS⟩ : ∃ SS, SS = splitL age place s := ⟨_, rfl⟩
  rw [← hSS] at O
  obtain ⟨N, hN⟩ : ∃ N, N = manyN s.length := ⟨_, rfl⟩
  have hNl : SS.length = N := by rw [hSS, hN, split_len]
  have hN1 : 1 ≤ N := by rw [hN]; exact many_pos _
  have hN2 : N ≤ 1024 := by omega
  have hN7 : place + (N : Int) ≤ 1024 := by omega
  obtain ⟨g, cap, rfl⟩ := O.shapePos (by omega)
  rw [hNl] at O ⊢
  have hcap := O.capS
  obtain ⟨K, hK, hk⟩ := modLen wh N hN1 hN2
  have hu := u64_small N (by omega)
  have g1 := gone_short hr K (by omega)
  have g2 := gone_less hr K (by omega)
  have g3 := gone_odd hr K (by omega)
  rw [← hSS] at g1 g2 g3
  have G1 := Lib.hid g1
  have G2 := Lib.hid g2
  have G3 := Lib.hid g3
  have HNL := Lib.hid hNl
  have e1 := fun w' => run_rowTo g 0 N cap K (by omega) w'
  clear hSS hN hNl hr r1 r2 r3 q7 g1 g2 g3
  have hj1 := O.strsR.takeS K (by omega) cap
  go_wp2_with fail
  refine (join_chg hj1 age place (by have := HNL.out; simp; omega)).mono ?_
  rintro e w9 ⟨rfl, oj⟩
  replace O := O.pure oj.chg
  clear oj hj1
  rw [joinV_false G1.out]
  go_upto_region 8 with fail
  have OE := O.drew.emptyS
  obtain ⟨v1, w10, hap1, O1⟩ := run_append_someO OE ((OE.pick 1).strsR.takeS K (by omega) cap) (by have := HNL.out; simp; omega) 22
  obtain ⟨a1, cap1, rfl⟩ := O1.shape
  have hlt1 : ([] ++ SS.take K).length = K := by have := HNL.out; simp; omega
  rw [hlt1] at hap1 O1
  obtain ⟨o2, e2, S2⟩ := (O1.pick 1).strsR.fromS hcap (K + 1) (by omega)
  obtain ⟨v2, w11, hap2, O2⟩ := run_append_someO O1 S2 (by have := HNL.out; simp; omega) 22
  obtain ⟨a2, cap2, rfl⟩ := O2.shape
  obtain ⟨M, hM⟩ : ∃ M, M = ([] ++ SS.take K ++ SS.drop (K + 1)).length := ⟨_, rfl⟩
  rw [← hM] at hap2 O2
  rw [List.nil_append] at O2
  have hMl : M ≤ 10000 := by have := HNL.out; rw [hM]; simp; omega
  have wk : IntKind.i64.wrap ((K : Int) + 1) = (K : Int) + 1 := i64_wraps _ (by omega) (by omega)
  have e2' : ∀ w' : World, (Instr.slice 22 (.slice (some ⟨g, 0, none⟩) N cap) (some (.int .i64 ((K : Int) + 1))) none none).run Tryd.prog w' = .ok (.slice (some ⟨g, o2, none⟩) (N - (K + 1)) (cap - (K + 1))) w' := fun w' => e2 w'
  have OO := Lib.hid O2
  clear O O1 O2 OE S2 hM hlt1 e2
  go_region_held3 (fun _ => True)
    (exact trivial)
    (first
      | (refine step_appendO rfl rfl rfl rfl hap1 ?_)
      | (refine step_appendO rfl rfl rfl rfl hap2 ?_))
  clear hap1 hap2 e2'
  have hv := OO.out.strsR
  go_wp2_with fail
  refine (join_chg hv age place (by have := HNL.out; simp; omega)).mono ?_
  rintro e w12 ⟨rfl, oj⟩
  have O := (OO.out.pure oj.chg).drop
  clear oj hv OO e1
  rw [joinV_false G2.out]
  go_wp2_with fail
  refine (get_any O x).mono ?_
  clear O
  rintro e w13 ⟨rfl, O⟩
  obtain ⟨GV, hGV⟩ : ∃ GV, GV = getB x := ⟨_, rfl⟩
  obtain ⟨A, hA⟩ : ∃ A : Int, A = bif getB x then (getA x : Int) else 0 := ⟨_, rfl⟩
  obtain ⟨P, hP⟩ : ∃ P : Int, P = bif getB x then (getP x : Int) else 0 := ⟨_, rfl⟩
  obtain ⟨T, hT⟩ : ∃ T : List UInt8, T = bif getB x then getT x else [] := ⟨_, rfl⟩
  rw [show getV x = .tuple #[.int .i64 A, .int .i64 P, .string ⟨T.toArray⟩, .bool GV] by rw [hA, hP, hT, hGV]; unfold getV; cases getB x <;> rfl]
  have HGV := Lib.hid hGV
  have HA := Lib.hid hA
  have HP := Lib.hid hP
  clear hGV hA hP hT
  have O2 := O.emptyS
  clear O
  go_wp2_with (at_builtin; refine wpList_append_strsO rfl _ _ rfl _ [] _ SS _ O2 rfl rfl (O2.pick 1).strsR (O2.pick 1).kindS (by have := HNL.out; simp; omega) ?_)
  intro v3 w14 O3
  clear O2
  obtain ⟨g3, cap3, rfl⟩ := O3.shapePos (by have := HNL.out; simp; omega)
  have hl3 : SS.length = N := HNL.out
  rw [hl3] at O3 ⊢
  obtain ⟨-, cm, fm⟩ := O3.readRow K (by have := HNL.out; omega)
  have O4 := O3.store K x
  have hv := O4.strsR
  have OO := Lib.hid O4
  obtain ⟨old, cm2⟩ : ∃ old, w14.cell? ⟨g3, K, none⟩ = some (.string ⟨old⟩) := ⟨_, cm⟩
  clear O3 O4 hl3 cm
  have hKN : (K : Int) < (N : Int) := by omega
  go_wp2_with fail
  refine (join_chg hv age place (by have := HNL.out; simp; omega)).mono ?_
  rintro e w15 ⟨rfl, oj⟩
  have O := OO.out.pure oj.chg
  clear oj hv OO
  cases hj : joinB age place (SS.set K x) with
  | false =>
    rw [joinV_false hj]
    clear hj
    go_wp2
    go_returns
    exact ⟨rfl, O.below⟩
  | true =>
    rw [joinV_true hj]
    have hok := G3.out x hj
    unfold okAt at hok
    simp only [Bool.and_eq_true, decide_eq_true_eq] at hok
    obtain ⟨k1, k2, k3⟩ := hok
    have y1 : GV = true := by rw [HGV.out, k1]
    have y2 : A = age := by rw [HA.out, k1]; exact k2
    have y3 : P = place + (K : Int) := by rw [HP.out, k1]; exact k3.trans (IntWalk.wrap64_in _ (by omega))
    have wpk : IntKind.i64.wrap (place + (K : Int)) = place + (K : Int) := i64_wraps _ (by omega) (by omega)
    subst y1 y2 y3
    clear hj k1 k2 k3
    go_wp2
    go_returns
    exact ⟨rfl, O.below⟩
end Go.Proofs.YtdfkjjopekceoaaDoor
