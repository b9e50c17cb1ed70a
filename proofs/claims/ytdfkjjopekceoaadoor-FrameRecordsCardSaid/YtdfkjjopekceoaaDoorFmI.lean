/- frame: awake. -/
import Derived.Test.YtdfkjjopekceoaaDoorFmH
namespace Go.Proofs.YtdfkjjopekceoaaDoor
set_option linter.all false
open Go.RowKit

theorem run_sum (a b : List UInt8) (c : List UInt8) (h : c = a ++ b) (hl : a.length + b.length ≤ 1000000) (w : World) : (Op.stringOp .add ⟨a.toArray⟩ ⟨b.toArray⟩).run Tryd.prog w = .ok (.string ⟨c.toArray⟩) w := by
  rw [run_string_add_sum _ _ _ (by show a.length + b.length ≤ _; omega), mk_append, h]
theorem Own.shapePos {w0 w : World} {L : List Piece} {v : Value} {ss : List (List UInt8)} (h : Own w0 w (strs v ss :: L)) (hp : 0 < ss.length) : ∃ g cap, v = .slice (some ⟨g, 0, none⟩) ss.length cap := by
  rcases row_shape' h.row with rfl | ⟨g, cap, rfl⟩
  · obtain ⟨a, cap, hv⟩ := h.shape
    simp only [Value.slice.injEq] at hv
    omega
  · exact ⟨g, cap, rfl⟩
set_option maxRecDepth 100000 in
set_option maxHeartbeats 4000000 in
theorem awake11 {w0 w : World} {L : List Piece} (O : Own w0 w L) :
    Calls Tryd.prog 9 #[] w fun e w' => e = .returned (.bool true) ∧ Own w0 w' L := by
  go_enter Tryd.func9, Tryd.ntmps9
  go_wp2_with fail
  refine (put11_own O 1 0 [97, 98] aw_may (by simp)).mono ?_
  clear O
  rintro e w1 ⟨rfl, O⟩
  obtain ⟨A, hA⟩ : ∃ A, A = putS 1 0 [97, 98] := ⟨_, rfl⟩
  rw [← hA]
  have HA := Lib.hid hA
  clear hA
  go_wp2_with fail
  refine (fill_any 0 7 (by omega) _).mono ?_
  rintro e w2 ⟨rfl, c2⟩
  replace O := O.pure c2
  clear c2
  obtain ⟨Z7, hZ7⟩ : ∃ Z7, Z7 = List.replicate 7 (0 : UInt8) := ⟨_, rfl⟩
  obtain ⟨ST, hST⟩ : ∃ ST, ST = [1] ++ List.replicate 7 (0 : UInt8) := ⟨_, rfl⟩
  obtain ⟨Z110, hZ110⟩ : ∃ Z, Z = List.replicate 110 (0 : UInt8) := ⟨_, rfl⟩
  obtain ⟨Q1, hQ1⟩ : ∃ Q, Q = ST ++ [97, 98] := ⟨_, rfl⟩
  obtain ⟨Q2, hQ2⟩ : ∃ Q, Q = Q1 ++ Z110 := ⟨_, rfl⟩
  have hlST : ST.length = 8 := by rw [hST]; rfl
  have hlZ : Z110.length = 110 := by rw [hZ110]; simp
  have hlQ1 : Q1.length = 10 := by rw [hQ1, List.length_append, hlST]; rfl
  have hlQ2 : Q2.length = 120 := by rw [hQ2, List.length_append, hlQ1, hlZ]
  have s1 := run_sum [1] Z7 ST (by rw [hST, hZ7]) (by rw [hZ7]; simp)
  have s2 := run_sum ST [97, 98] Q1 hQ1 (by rw [hlST]; simp)
  have s3 := run_sum Q1 Z110 Q2 hQ2 (by omega)
  have s4 := run_sum Q2 ST A (by rw [HA.out, aw_put, hQ2, hQ1, hST, hZ110]) (by omega)
  rw [← hZ7]
  have HZ := Lib.hid hZ110
  clear hZ7 hST hZ110 hQ1 hQ2 hlST hlZ hlQ1 hlQ2
  go_wp2_with fail
  refine (fill_any 120 107 (by omega) _).mono ?_
  rintro e w3 ⟨rfl, c3⟩
  replace O := O.pure c3
  clear c3
  obtain ⟨X, hX⟩ : ∃ X, X = List.replicate 107 (120 : UInt8) := ⟨_, rfl⟩
  have HX := Lib.hid hX
  have hXl : manyN X.length = 2 := by rw [hX]; rfl
  rw [← hX]
  clear hX
  go_wp2_with fail
  refine (split_own O 1 5 X aw_may5 (by rw [HX.out]; simp) (by rw [hXl]; decide)).mono ?_
  clear O
  rintro e w4 ⟨v, rfl, O⟩
  rw [show splitL 1 5 X = awS from by rw [HX.out]; rfl] at O
  obtain ⟨SS, hSS⟩ : ∃ SS, SS = awS := ⟨_, rfl⟩
  rw [← hSS] at O
  have HSS := Lib.hid hSS
  have hln : SS.length = 2 := by rw [hSS, awS_is]; rfl
  obtain ⟨L0, hL0⟩ : ∃ L0, L0 = awL0 := ⟨_, rfl⟩
  obtain ⟨L1, hL1⟩ : ∃ L1, L1 = awL1 := ⟨_, rfl⟩
  have hs0 : SS[0]? = some L0 := by rw [hSS, awS_is, hL0]; rfl
  have hs1 : SS[1]? = some L1 := by rw [hSS, awS_is, hL1]; rfl
  have hv := O.strsR
  obtain ⟨g, cap, rfl⟩ := O.shapePos (by omega)
  obtain ⟨-, cm0, -⟩ := O.readRow 0 (by omega)
  obtain ⟨-, cm1, -⟩ := O.readRow 1 (by omega)
  rw [show SS[0]'(by omega) = L0 from (List.getElem?_eq_some_iff.1 hs0).2] at cm0
  rw [show SS[1]'(by omega) = L1 from (List.getElem?_eq_some_iff.1 hs1).2] at cm1
  have hv := Lib.hid O.strsR
  have OO := Lib.hid O
  rw [hln]
  have hl0 : (L0.length : Int) = 128 := by rw [hL0, aw_len]; rfl
  have hl0' : 14 ≤ L0.length := by omega
  have s5 : ∀ w' : World, (Instr.slice 9 (.string ⟨L0.toArray⟩) (some (.int .i64 8)) (some (.int .i64 14)) none).run Tryd.prog w' = .ok (.string ⟨#[2, 0, 107, 0, 0, 0]⟩) w' := fun w' => (run_sub L0 8 14 (by omega) hl0' w').trans (by rw [hL0, aw_sub])
  have HL1 := Lib.hid hL1
  have HLN := Lib.hid hln
  clear hSS hs0 hs1 hL0 hL1 hln hl0' hXl O
  go_wp2_with fail
  refine (many_nat 0 (by omega) _).mono ?_
  rintro e w5 ⟨rfl, rfl⟩
  rw [show ((manyN 0 : Nat) : Int) = 1 from rfl]
  go_wp2_with fail
  refine (many_nat 106 (by omega) _).mono ?_
  rintro e w5 ⟨rfl, rfl⟩
  rw [show ((manyN 106 : Nat) : Int) = 1 from rfl]
  go_wp2_with fail
  refine (many_nat 107 (by omega) _).mono ?_
  rintro e w5 ⟨rfl, rfl⟩
  rw [show ((manyN 107 : Nat) : Int) = 2 from rfl]
  go_wp2_with fail
  refine (fill_any 0 110 (by omega) _).mono ?_
  rintro e w5 ⟨rfl, c5⟩
  have O := OO.out.pure c5
  rw [← HZ.out]
  have hh0 : 0 < SS.length := by have := HLN.out; omega
  have hh1 : 1 < SS.length := by have := HLN.out; omega
  have e0 : SS[0] = L0 := by
    have := cm0.symm.trans (OO.out.readRow 0 hh0).2.1
    simp at this
    exact this.symm
  have e1 : SS[1] = L1 := by
    have := cm1.symm.trans (OO.out.readRow 1 hh1).2.1
    simp at this
    exact this.symm
  obtain ⟨-, cn0, -⟩ := O.readRow 0 hh0
  obtain ⟨-, cn1, -⟩ := O.readRow 1 hh1
  rw [e0] at cn0
  rw [e1] at cn1
  clear cm0 cm1 c5
  have hlen0 : L0.length ≤ 1000 := by omega
  have hlen1 : L1.length = 128 := by rw [HL1.out]; exact aw_len1
  have hj := O.strsR
  have hw5 : (⟨L1.toArray⟩ : ByteArray).size = 128 := by simp [ByteArray.size, hlen1]
  rw [HLN.out] at hj
  have HJ0 := Lib.hid hj
  have O5 := Lib.hid O
  clear e0 e1 hh0 hh1 hj O hlen0 hlen1
  go_wp2_with fail
  refine (get_any O5.out L1).mono ?_
  clear O5 cn0 cn1
  rintro e w6 ⟨rfl, O⟩
  rw [HL1.out, getV_true aw_get, aw_place, ← HL1.out]
  have hj := O.strsR
  rw [HLN.out] at hj
  go_wp2_with fail
  refine (join_chg hj 1 5 (by rw [HLN.out]; omega)).mono ?_
  rintro e w7 ⟨rfl, oj⟩
  replace O := O.pure oj.chg
  replace hj := hj.keep oj.chg (by simp)
  clear oj
  rw [joinV_true (by rw [HSS.out]; exact awS_join), show joinT SS = X from by rw [HSS.out, HX.out]; exact awS_text, show joinM SS = 2 from by rw [HSS.out]; exact awS_many]
  go_wp2_with fail
  refine (join_chg hj 2 5 (by rw [HLN.out]; omega)).mono ?_
  rintro e w8 ⟨rfl, oj⟩
  replace O := O.pure oj.chg
  replace hj := hj.keep oj.chg (by simp)
  clear oj
  rw [joinV_false (by rw [HSS.out]; exact awS_age)]
  go_wp2_with fail
  refine (join_chg hj 1 6 (by rw [HLN.out]; omega)).mono ?_
  rintro e w9 ⟨rfl, oj⟩
  replace O := O.pure oj.chg
  clear oj hj
  rw [joinV_false (by rw [HSS.out]; exact awS_place)]
  go_wp2_with fail
  refine (fill_any 120 107 (by omega) _).mono ?_
  rintro e w10 ⟨rfl, c3⟩
  replace O := O.pure c3
  clear c3
  rw [← HX.out]
  have FIN := Lib.hid O.drop
  clear O
  go_wp2
  go_returns
  exact ⟨rfl, FIN.out⟩
end Go.Proofs.YtdfkjjopekceoaaDoor
