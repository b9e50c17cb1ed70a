/- HeadTells: the walk. -/
import Derived.Test.YtnkcanhkdfckmaaDoorHdI
import Derived.Test.YtnkcanhkdfckmaaDoorHdZ
import Derived.Test.YtnkcanhkdfckmaaDoorSame
namespace Go.Proofs.YtnkcanhkdfckmaaDoor
set_option linter.all false
open Go.RowKit

set_option maxRecDepth 100000 in
set_option maxHeartbeats 8000000 in
theorem headTells_walk {w : World} (m : Int) (hm : w.cell? ⟨0, 0, none⟩ = some (.int .i64 m)) (s : List UInt8) (hs : s.length ≤ 140737488351232) (a : List UInt8) (ha : a.length ≤ 140737488351232) (b : List UInt8) (hb : b.length ≤ 140737488351232) :
    Calls Tryd.prog 4 #[.string ⟨s.toArray⟩, .string ⟨a.toArray⟩, .string ⟨b.toArray⟩] w fun e w' => e = .returned (.bool true) ∧ Below w.heap.size w w' := by
  have O := Own.start w
  by_cases h1 : 5000 < s.length
  · have h1' : (5000 : Int) < (s.length : Int) := by omega
    go_enter Tryd.func4, Tryd.ntmps4
    go_wp2_with fail
    refine (awake9_own O hm).mono ?_
    rintro e w1 ⟨rfl, O1⟩
    go_wp2
    go_ret
    exact ⟨rfl, O1.below⟩
  have h1' : ¬ (5000 : Int) < (s.length : Int) := by omega
  by_cases h2 : 5000 < a.length + b.length
  · have h2' : (5000 : Int) < (a.length : Int) + (b.length : Int) := by omega
    clear h1
    go_enter Tryd.func4, Tryd.ntmps4
    go_wp2_with fail
    refine (awake9_own O hm).mono ?_
    rintro e w1 ⟨rfl, O1⟩
    go_wp2
    go_ret
    exact ⟨rfl, O1.below⟩
  have h2' : ¬ (5000 : Int) < (a.length : Int) + (b.length : Int) := by omega
  have z1 : s.length ≤ 10000000 := by omega
  have z2 : a.length ≤ 10000000 := by omega
  have z3 : b.length ≤ 10000000 := by omega
  obtain ⟨xs, hxs⟩ : ∃ x, fieldsL s = x := ⟨_, rfl⟩
  obtain ⟨vs, hvs⟩ : ∃ x, getL s a = x := ⟨_, rfl⟩
  obtain ⟨bd, hbd⟩ : ∃ x, bodyL s = x := ⟨_, rfl⟩
  obtain ⟨lk, hlk⟩ : ∃ x, (smallL a == smallL b) = x := ⟨_, rfl⟩
  have HXL : xs.length ≤ 10000000 := by have := fieldsL_len s; rw [hxs] at this; omega
  have HVL : vs.length ≤ 10000000 := by
    have := valsL_len a (fieldsL s)
    rw [show valsL a (fieldsL s) = vs from hvs, hxs] at this
    omega
  have FC := Lib.hid (fun (W : World) (O : Own w W []) => fieldsC_own O hm s z1)
  rw [hxs] at FC
  have RF := Lib.hid (fun (W : World) (L : List Piece) (O : Own w W L) => rFields_own O s z1 hxs)
  have GC := Lib.hid (fun (W : World) (L : List Piece) (O : Own w W L) => getC_own O hm s a z1 (by omega) hvs)
  have RG := Lib.hid (fun (W : World) (L : List Piece) (O : Own w W L) => rGet_own O s a z1 (by omega) hvs)
  obtain ⟨N, hN⟩ : ∃ n, n = xs.length := ⟨_, rfl⟩
  obtain ⟨M, hM⟩ : ∃ n, n = vs.length := ⟨_, rfl⟩
  rw [← hN] at HXL
  rw [← hM] at HVL
  have HN := Lib.hid hN
  have HM := Lib.hid hM
  clear h1 h2 hxs hvs hN hM
  go_enter Tryd.func4, Tryd.ntmps4
  go_wp2_with fail
  go_loopw [7] (fun iv wr => ∃ k : Nat, k ≤ 2 ∧ iv = .int .i64 k ∧ Own w wr []) (fun iv _ => 2 - (intOf iv).toNat)
  case atStart => exact ⟨0, by omega, rfl, O⟩
  case round =>
    clear O
    obtain ⟨k, hk, rfl, O⟩ := hrel
    by_cases hlt : k < 2
    · have hb1 : (k : Int) < 2 := by omega
      go_wp2_with fail
      refine (FC.out _ O).mono ?_
      clear O
      rintro e w1 ⟨xa, xc, rfl, O⟩
      rw [← HN.out] at O ⊢
      go_wp2_with fail
      refine (GC.out _ _ O).mono ?_
      clear O
      rintro e w2 ⟨va, vc, rfl, O⟩
      rw [← HM.out] at O ⊢
      go_wp2_with fail
      have TO := told_own O (a := xa) (cap := xc) (xs := xs) (by rw [← HN.out]; exact HXL) (fun w' h => by rw [← HN.out]; exact (h.pick 1).fdR)
      rw [← HN.out] at TO
      refine TO.mono ?_
      clear TO O
      rintro e w3 ⟨ta, tc, rfl, O⟩
      rw [← HN.out] at O ⊢
      go_wp2_with fail
      refine (RF.out _ _ O).mono ?_
      clear O
      rintro e w4 ⟨ra, rc, rfl, O⟩
      rw [← HN.out] at O ⊢
      go_wp2_with fail
      refine (rSame_any w4 (O.pick 1).fdR O.fdR HN.out HN.out (by omega) (b := true) (by simp)).mono ?_
      rintro e w5 ⟨rfl, j5, rfl⟩
      have O5 := O.drewN j5
      clear O
      go_wp2_with fail
      refine (RG.out _ _ O5).mono ?_
      clear O5
      rintro e w6 ⟨ga, gc, rfl, O⟩
      rw [← HM.out] at O ⊢
      go_wp2_with fail
      refine (same_any _ _ _ vs vs _ _ (O.pick 3).strsR O.strsR (by rw [← HM.out]; omega) true (by simp)).mono ?_
      rintro e w7 ⟨rfl, j7, rfl⟩
      have O7 : Own w (w6.drewN j7) (rowv 29 2 (.slice xa N xc) N (flatF xs) :: strs (.slice va M vc) vs :: []) := (O.drewN j7).selK 5 [4, 3]
      clear O
      go_wp2_with fail
      go_loopw [10] (fun iv wr => ∃ (i : Nat) (ys : List Value), i ≤ N ∧ iv = .int .i64 i ∧ Own w wr (rowv 29 2 (.slice xa N xc) N ys :: strs (.slice va M vc) vs :: [])) (fun iv _ => N - (intOf iv).toNat)
      case atStart => exact ⟨0, _, by omega, rfl, O7⟩
      case round =>
        clear O7
        obtain ⟨i, ys, hi, rfl, O⟩ := hrel
        by_cases hin : i < N
        · have hyl := O.rowvLen
          obtain ⟨-, g, rfl, c0, f0⟩ := O.rowvAt (i * 2) (by omega)
          have hb2 : (i : Int) < (N : Int) := by omega
          have OS := O.rowvStore (i * 2) (.string ⟨#[115, 112, 111, 105, 108, 116]⟩)
          generalize ys[i * 2]'(by omega) = old at c0
          clear hyl O
          go_wp2
          go_roundw
          case rel => exact ⟨i + 1, _, by omega, by go_num, OS⟩
          case measure => simp [intOf]; omega
        · obtain rfl : i = N := by omega
          have hb2 : ¬ (i : Int) < (i : Int) := by omega
          have O7 : Own w wr (strs (.slice va M vc) vs :: []) := O.drop
          clear O
          go_wp2_with fail
          go_loopw [11] (fun iv wr => ∃ (i : Nat) (us : List (List UInt8)), i ≤ M ∧ iv = .int .i64 i ∧ us.length = M ∧ Own w wr (strs (.slice va M vc) us :: [])) (fun iv _ => M - (intOf iv).toNat)
          case atStart => exact ⟨0, vs, by omega, rfl, HM.out.symm, O7⟩
          case round =>
            clear O7
            obtain ⟨i, us, hi, rfl, hus, O⟩ := hrel
            by_cases hin : i < M
            · obtain ⟨-, g, rfl, c0, f0⟩ := O.strsAt i (by omega)
              have hb2 : (i : Int) < (M : Int) := by omega
              have OS := O.store i [115, 112, 111, 105, 108, 116]
              have HU := Lib.hid hus
              generalize us[i]'(by omega) = old at c0
              clear O hus
              go_wp2
              go_roundw
              case rel => exact ⟨i + 1, _, by omega, by go_num, by rw [List.length_set]; exact HU.out, OS⟩
              case measure => simp [intOf]; omega
            · obtain rfl : i = M := by omega
              have hb2 : ¬ (i : Int) < (i : Int) := by omega
              have O7 := O.drop
              clear O hus
              go_wp2_with fail
              go_roundw
              case rel => exact ⟨k + 1, by omega, by go_num, O7⟩
              case measure => simp [intOf]; omega
    · have hb1 : ¬ (k : Int) < 2 := by omega
      go_wp2_with fail
      refine (body_own O hm s z1 hbd).mono ?_
      clear O
      rintro e w1 ⟨rfl, O⟩
      go_wp2_with fail
      refine (rBody_own O s z1 hbd).mono ?_
      clear O
      rintro e w2 ⟨rfl, O⟩
      go_wp2_with fail
      have LK := like_own O a b (by omega) (by omega)
      rw [hlk] at LK
      refine LK.mono ?_
      clear LK O
      rintro e w3 ⟨rfl, O⟩
      go_wp2_with fail
      have LK := rlike_any a b (by omega) w3
      rw [hlk] at LK
      refine LK.mono ?_
      clear LK
      rintro e w4 ⟨rfl, j, rfl⟩
      have O4 := O.drewN j
      clear O
      go_wp2_with fail
      refine (awake9_own O4 hm).mono ?_
      clear O4
      rintro e w5 ⟨rfl, O⟩
      go_wp2
      go_ret
      exact ⟨rfl, O.below⟩
end Go.Proofs.YtnkcanhkdfckmaaDoor
