/- FrameTorn: the walk. -/
import Derived.Test.YtdfkjjopekceoaaDoorFmJ
namespace Go.Proofs.YtdfkjjopekceoaaDoor
set_option linter.all false
open Go.RowKit

theorem run_subTo (l : List UInt8) (j : Nat) (h2 : j ≤ l.length) (w : World) : (Instr.slice 9 (.string ⟨l.toArray⟩) none (some (.int .i64 j)) none).run Tryd.prog w = .ok (.string ⟨(l.take j).toArray⟩) w := by
  have hsz : (⟨l.toArray⟩ : ByteArray).size = l.length := by simp [ByteArray.size]
  rw [run_slice_string_to_if w 9 ⟨l.toArray⟩ .i64 j Tryd.underlying9, if_pos ⟨by omega, by rw [hsz]; omega⟩, mk_extract]
  rfl
theorem mod129 (n : Int) : ∃ K : Nat, wrap64 ((IntKind.u64.wrap n).tmod 129) = (K : Int) ∧ K ≤ 128 := by
  have h0 : 0 ≤ IntKind.u64.wrap n := by
    simp [IntKind.wrap, IntKind.bits, IntKind.signed]
    omega
  generalize IntKind.u64.wrap n = m at h0
  rw [Int.tmod_eq_emod_of_nonneg h0, IntWalk.wrap64_in _ (by omega)]
  exact ⟨(m % 129).toNat, by omega, by omega⟩
set_option maxRecDepth 100000 in
set_option maxHeartbeats 4000000 in
theorem frameTorn_walk {w : World} (age : Int) (ha : (Lit.int .i64 age).wf = true) (other : Int) (ho : (Lit.int .i64 other).wf = true) (place : Int) (hp : (Lit.int .i64 place).wf = true) (there : Int) (hth : (Lit.int .i64 there).wf = true) (s : List UInt8) (hs : s.length ≤ 140737488351232) (t : List UInt8) (ht : t.length ≤ 140737488351232) (at' : Int) (hat : (Lit.int .i64 at').wf = true) :
    Calls Tryd.prog 8 #[.int .i64 age, .int .i64 other, .int .i64 place, .int .i64 there, .string ⟨s.toArray⟩, .string ⟨t.toArray⟩, .int .i64 at'] w fun e w' => e = .returned (.bool true) ∧ Below w.heap.size w w' := by
  have O := Own.start w
  go_enter Tryd.func8, Tryd.ntmps8
  by_cases hs3 : (300 : Int) < (s.length : Int)
  · go_wp2_with fail
    refine (awake11 O).mono ?_
    rintro e w1 ⟨rfl, O1⟩
    go_wp2
    go_returns
    exact ⟨rfl, O1.below⟩
  by_cases ht3 : (300 : Int) < (t.length : Int)
  · go_wp2_with fail
    refine (awake11 O).mono ?_
    rintro e w1 ⟨rfl, O1⟩
    go_wp2
    go_returns
    exact ⟨rfl, O1.below⟩
  go_wp2_with fail
  refine (awake11 O).mono ?_
  clear O
  rintro e w1 ⟨rfl, O⟩
  go_wp2_with fail
  refine (put_any O age place s).mono ?_
  clear O
  rintro e w2 ⟨rfl, O⟩
  obtain ⟨X, hX⟩ : ∃ X, X = putX age place s := ⟨_, rfl⟩
  obtain ⟨E, hE⟩ : ∃ E, E = putE age place s := ⟨_, rfl⟩
  rw [← hX, ← hE]
  have HX := Lib.hid hX
  have HE := Lib.hid hE
  clear hX hE
  go_wp2_with fail
  refine (put_any O other there t).mono ?_
  clear O
  rintro e w3 ⟨rfl, O⟩
  obtain ⟨Y, hY⟩ : ∃ Y, Y = putX other there t := ⟨_, rfl⟩
  obtain ⟨E2, hE2⟩ : ∃ E, E = putE other there t := ⟨_, rfl⟩
  rw [← hY, ← hE2]
  have HY := Lib.hid hY
  have HE2 := Lib.hid hE2
  clear hY hE2
  by_cases h1 : E = 0
  rotate_left
  · have h1a : (E != 0) = true := by simpa using h1
    go_wp2
    go_returns
    exact ⟨rfl, O.below⟩
  by_cases h2 : E2 = 0
  rotate_left
  · have h2a : (E2 != 0) = true := by simpa using h2
    go_wp2
    go_returns
    exact ⟨rfl, O.below⟩
  obtain ⟨m1, m2, m3⟩ := putE_zero (HE.out.symm.trans h1)
  obtain ⟨n1, n2, n3⟩ := putE_zero (HE2.out.symm.trans h2)
  have XS := Lib.hid (HX.out.trans m3)
  have YS := Lib.hid (HY.out.trans n3)
  have M1 := Lib.hid m1
  have N1 := Lib.hid n1
  clear m1 n1 m3 n3
  obtain ⟨K, hK, hk⟩ : ∃ K : Nat, wrap64 ((IntKind.u64.wrap at').tmod 129) = (K : Int) ∧ K ≤ 128 := mod129 at'
  by_cases h3a : age = other
  · subst h3a
    by_cases h3b : place = there
    · subst h3b
      go_wp2
      go_returns
      exact ⟨rfl, O.below⟩
    · have hne := Lib.hid (show ¬ (age = age ∧ place = there) from fun h => h3b h.2)
      go_upto_region 7 with fail
      have xl : X.length = 128 := by rw [XS.out]; exact putS_len m2
      have yl : Y.length = 128 := by rw [YS.out]; exact putS_len n2
      obtain ⟨Z, hZ⟩ : ∃ Z, Z = mixL K X Y := ⟨_, rfl⟩
      have zl : Z.length = 128 := by rw [hZ]; unfold mixL; simp; omega
      have e1 : ∀ w' : World, (Instr.slice 9 (.string ⟨X.toArray⟩) none (some (.int .i64 K)) none).run Tryd.prog w' = .ok (.string ⟨(X.take K).toArray⟩) w' := fun w' => run_subTo X K (by omega) w'
      have e2 : ∀ w' : World, (Instr.slice 9 (.string ⟨Y.toArray⟩) (some (.int .i64 K)) none none).run Tryd.prog w' = .ok (.string ⟨(Y.drop K).toArray⟩) w' := fun w' => run_subFrom Y K (by omega) w'
      have e3 := run_sum (X.take K) (Y.drop K) Z hZ (by simp; omega)
      have TORN := Lib.hid (torn (s := s) (t := t) M1.out N1.out m2 n2 (by simpa using hne.out) K hk)
      rw [← XS.out, ← YS.out, ← hZ] at TORN
      have HZ := Lib.hid hZ
      have HXL := Lib.hid xl
      have HYL := Lib.hid yl
      have HZL := Lib.hid zl
      clear hZ xl yl zl
      go_wp2_with fail
      go_quiet (fail)
      clear e1 e2 e3
      go_wp2_with fail
      refine (get_any (O.drewN _) Z).mono ?_
      clear O
      rintro e w5 ⟨rfl, O⟩
      have gx : getB X = true := by rw [XS.out]; exact putS_B M1.out m2
      have gy : getB Y = true := by rw [YS.out]; exact putS_B N1.out n2
      have ax : (getA X : Int) = age := by rw [XS.out]; exact putS_A M1.out
      have px : (getP X : Int) = place := by rw [XS.out]; exact putS_P M1.out
      have ay : (getA Y : Int) = age := by rw [YS.out]; exact putS_A N1.out
      have py : (getP Y : Int) = there := by rw [YS.out]; exact putS_P N1.out
      have tx : ∀ w' : World, (Instr.slice 9 (.string ⟨X.toArray⟩) (some (.int .i64 8)) (some (.int .i64 120)) none).run Tryd.prog w' = .ok (.string ⟨(getT X).toArray⟩) w' := fun w' => run_sub X 8 120 (by omega) (by rw [HXL.out]; omega) w'
      have ty : ∀ w' : World, (Instr.slice 9 (.string ⟨Y.toArray⟩) (some (.int .i64 8)) (some (.int .i64 120)) none).run Tryd.prog w' = .ok (.string ⟨(getT Y).toArray⟩) w' := fun w' => run_sub Y 8 120 (by omega) (by rw [HYL.out]; omega) w'
      cases hb : getB Z with
      | false =>
        have zx : Z ≠ X := fun h => by rw [h, gx] at hb; cases hb
        have zy : Z ≠ Y := fun h => by rw [h, gy] at hb; cases hb
        have zx1 : (Z == X) = false := by simpa using zx
        have zx2 : (Z != X) = true := by simpa using zx
        have zy1 : (Z == Y) = false := by simpa using zy
        have zy2 : (Z != Y) = true := by simpa using zy
        rw [getV_false hb]
        clear gx gy ax px ay py tx ty hb zx zy
        by_cases hao : age < age
        rotate_left
        · go_wp2
          go_returns
          exact ⟨rfl, O.below⟩
        have hq : ¬ (age < (ageS Z : Int)) := by have := TORN.out.2 hao; omega
        first
        | exact absurd hao (Int.lt_irrefl _)
        | (go_wp2_with fail
           refine (age_any O Z).mono ?_
           clear O
           rintro e w6 ⟨rfl, O⟩
           go_wp2
           go_returns
           exact ⟨rfl, O.below⟩)
      | true =>
        rw [getV_true hb]
        by_cases zx : Z = X
        · subst zx
          rw [ax, px]
          clear gx gy ax px ay py ty hb
          by_cases hao : age < age
          rotate_left
          · go_wp2
            go_returns
            exact ⟨rfl, O.below⟩
          have hq : ¬ (age < (ageS Z : Int)) := by have := TORN.out.2 hao; omega
          first
          | exact absurd hao (Int.lt_irrefl _)
          | (go_wp2_with fail
             refine (age_any O Z).mono ?_
             clear O
             rintro e w6 ⟨rfl, O⟩
             go_wp2
             go_returns
             exact ⟨rfl, O.below⟩)
        · have zy : Z = Y := (TORN.out.1 hb).resolve_left zx
          subst zy
          have zx1 : (Z == X) = false := by simpa using zx
          have zx2 : (Z != X) = true := by simpa using zx
          rw [ay, py]
          clear gx gy ax px ay py tx hb zx
          by_cases hao : age < age
          rotate_left
          · go_wp2
            go_returns
            exact ⟨rfl, O.below⟩
          have hq : ¬ (age < (ageS Z : Int)) := by have := TORN.out.2 hao; omega
          first
          | exact absurd hao (Int.lt_irrefl _)
          | (go_wp2_with fail
             refine (age_any O Z).mono ?_
             clear O
             rintro e w6 ⟨rfl, O⟩
             go_wp2
             go_returns
             exact ⟨rfl, O.below⟩)
  · have hne := Lib.hid (show ¬ (age = other ∧ place = there) from fun h => h3a h.1)
    go_upto_region 7 with fail
    have xl : X.length = 128 := by rw [XS.out]; exact putS_len m2
    have yl : Y.length = 128 := by rw [YS.out]; exact putS_len n2
    obtain ⟨Z, hZ⟩ : ∃ Z, Z = mixL K X Y := ⟨_, rfl⟩
    have zl : Z.length = 128 := by rw [hZ]; unfold mixL; simp; omega
    have e1 : ∀ w' : World, (Instr.slice 9 (.string ⟨X.toArray⟩) none (some (.int .i64 K)) none).run Tryd.prog w' = .ok (.string ⟨(X.take K).toArray⟩) w' := fun w' => run_subTo X K (by omega) w'
    have e2 : ∀ w' : World, (Instr.slice 9 (.string ⟨Y.toArray⟩) (some (.int .i64 K)) none none).run Tryd.prog w' = .ok (.string ⟨(Y.drop K).toArray⟩) w' := fun w' => run_subFrom Y K (by omega) w'
    have e3 := run_sum (X.take K) (Y.drop K) Z hZ (by simp; omega)
    have TORN := Lib.hid (torn (s := s) (t := t) M1.out N1.out m2 n2 (by simpa using hne.out) K hk)
    rw [← XS.out, ← YS.out, ← hZ] at TORN
    have HZ := Lib.hid hZ
    have HXL := Lib.hid xl
    have HYL := Lib.hid yl
    have HZL := Lib.hid zl
    clear hZ xl yl zl
    go_wp2_with fail
    go_quiet (fail)
    clear e1 e2 e3
    go_wp2_with fail
    refine (get_any (O.drewN _) Z).mono ?_
    clear O
    rintro e w5 ⟨rfl, O⟩
    have gx : getB X = true := by rw [XS.out]; exact putS_B M1.out m2
    have gy : getB Y = true := by rw [YS.out]; exact putS_B N1.out n2
    have ax : (getA X : Int) = age := by rw [XS.out]; exact putS_A M1.out
    have px : (getP X : Int) = place := by rw [XS.out]; exact putS_P M1.out
    have ay : (getA Y : Int) = other := by rw [YS.out]; exact putS_A N1.out
    have py : (getP Y : Int) = there := by rw [YS.out]; exact putS_P N1.out
    have tx : ∀ w' : World, (Instr.slice 9 (.string ⟨X.toArray⟩) (some (.int .i64 8)) (some (.int .i64 120)) none).run Tryd.prog w' = .ok (.string ⟨(getT X).toArray⟩) w' := fun w' => run_sub X 8 120 (by omega) (by rw [HXL.out]; omega) w'
    have ty : ∀ w' : World, (Instr.slice 9 (.string ⟨Y.toArray⟩) (some (.int .i64 8)) (some (.int .i64 120)) none).run Tryd.prog w' = .ok (.string ⟨(getT Y).toArray⟩) w' := fun w' => run_sub Y 8 120 (by omega) (by rw [HYL.out]; omega) w'
    cases hb : getB Z with
    | false =>
      have zx : Z ≠ X := fun h => by rw [h, gx] at hb; cases hb
      have zy : Z ≠ Y := fun h => by rw [h, gy] at hb; cases hb
      have zx1 : (Z == X) = false := by simpa using zx
      have zx2 : (Z != X) = true := by simpa using zx
      have zy1 : (Z == Y) = false := by simpa using zy
      have zy2 : (Z != Y) = true := by simpa using zy
      rw [getV_false hb]
      clear gx gy ax px ay py tx ty hb zx zy
      by_cases hao : other < age
      rotate_left
      · go_wp2
        go_returns
        exact ⟨rfl, O.below⟩
      have hq : ¬ (age < (ageS Z : Int)) := by have := TORN.out.2 hao; omega
      first
      | exact absurd hao (Int.lt_irrefl _)
      | (go_wp2_with fail
         refine (age_any O Z).mono ?_
         clear O
         rintro e w6 ⟨rfl, O⟩
         go_wp2
         go_returns
         exact ⟨rfl, O.below⟩)
    | true =>
      rw [getV_true hb]
      by_cases zx : Z = X
      · subst zx
        rw [ax, px]
        clear gx gy ax px ay py ty hb
        by_cases hao : other < age
        rotate_left
        · go_wp2
          go_returns
          exact ⟨rfl, O.below⟩
        have hq : ¬ (age < (ageS Z : Int)) := by have := TORN.out.2 hao; omega
        first
        | exact absurd hao (Int.lt_irrefl _)
        | (go_wp2_with fail
           refine (age_any O Z).mono ?_
           clear O
           rintro e w6 ⟨rfl, O⟩
           go_wp2
           go_returns
           exact ⟨rfl, O.below⟩)
      · have zy : Z = Y := (TORN.out.1 hb).resolve_left zx
        subst zy
        have zx1 : (Z == X) = false := by simpa using zx
        have zx2 : (Z != X) = true := by simpa using zx
        rw [ay, py]
        clear gx gy ax px ay py tx hb zx
        by_cases hao : other < age
        rotate_left
        · go_wp2
          go_returns
          exact ⟨rfl, O.below⟩
        have hq : ¬ (age < (ageS Z : Int)) := by have := TORN.out.2 hao; omega
        first
        | exact absurd hao (Int.lt_irrefl _)
        | (go_wp2_with fail
           refine (age_any O Z).mono ?_
           clear O
           rintro e w6 ⟨rfl, O⟩
           go_wp2
           go_returns
           exact ⟨rfl, O.below⟩)
end Go.Proofs.YtdfkjjopekceoaaDoor
