/- frame: Get, Age. -/
import Derived.Test.YtnlppcjfpmnahaaGreatDoorFmD
import Derived.Test.YtnlppcjfpmnahaaGreatDoorFmP
namespace Go.Proofs.YtnlppcjfpmnahaaGreatDoor
set_option linter.all false
open Go.RowKit

def getV (x : List UInt8) : Value := bif getB x then .tuple #[.int .i64 (getA x), .int .i64 (getP x), .string ⟨(getT x).toArray⟩, .bool true] else .tuple #[.int .i64 0, .int .i64 0, .string ⟨#[]⟩, .bool false]
theorem getV_true {x : List UInt8} (h : getB x = true) : getV x = .tuple #[.int .i64 (getA x), .int .i64 (getP x), .string ⟨(getT x).toArray⟩, .bool true] := by unfold getV; rw [h]; rfl
theorem getV_false {x : List UInt8} (h : getB x = false) : getV x = .tuple #[.int .i64 0, .int .i64 0, .string ⟨#[]⟩, .bool false] := by unfold getV; rw [h]; rfl
theorem stampEq_run (a0 a1 a2 a3 a4 a5 a6 a7 b0 b1 b2 b3 b4 b5 b6 b7 : Int) (w : World) : (Op.equalIn 10000 110 (.agg #[.int .u8 a0, .int .u8 a1, .int .u8 a2, .int .u8 a3, .int .u8 a4, .int .u8 a5, .int .u8 a6, .int .u8 a7]) (.agg #[.int .u8 b0, .int .u8 b1, .int .u8 b2, .int .u8 b3, .int .u8 b4, .int .u8 b5, .int .u8 b6, .int .u8 b7])).run Tryz.prog w = .ok (a0 == b0 && (a1 == b1 && (a2 == b2 && (a3 == b3 && (a4 == b4 && (a5 == b5 && (a6 == b6 && a7 == b7))))))) w := by
  have hu := Tryz.underlying5
  have ha := Tryz.isAgg5
  have hz := Tryz.sizeOf5
  rw [show (10000 : Nat) = 9999 + 1 from rfl, Op.equalIn]
  simp only [Sem.run_bind, run_underlying Tryz.underlying110, Result.andThen_ok]
  simp only [Std.Legacy.Range.forIn_eq_forIn_range', Std.Legacy.Range.size, Nat.sub_zero, Nat.add_sub_cancel, Nat.div_one, List.range'_succ, List.range'_zero, List.forIn_cons, List.forIn_nil]
  go_simp
  by_cases h0 : a0 = b0
  rotate_left
  · simp [h0]
  subst h0
  by_cases h1 : a1 = b1
  rotate_left
  · simp [h1]
  subst h1
  by_cases h2 : a2 = b2
  rotate_left
  · simp [h2]
  subst h2
  by_cases h3 : a3 = b3
  rotate_left
  · simp [h3]
  subst h3
  by_cases h4 : a4 = b4
  rotate_left
  · simp [h4]
  subst h4
  by_cases h5 : a5 = b5
  rotate_left
  · simp [h5]
  subst h5
  by_cases h6 : a6 = b6
  rotate_left
  · simp [h6]
  subst h6
  by_cases h7 : a7 = b7
  rotate_left
  · simp [h7]
  subst h7
  simp
theorem u8eq (a b : UInt8) : ((a.toNat : Int) == (b.toNat : Int)) = (a == b) := by
  rw [Bool.eq_iff_iff]
  simp [← UInt8.toNat_inj]
  omega
theorem stampEq_bytes (a0 a1 a2 a3 a4 a5 a6 a7 b0 b1 b2 b3 b4 b5 b6 b7 : UInt8) (w : World) : (Op.equalIn 10000 110 (.agg #[.int .u8 (a0.toNat : Int), .int .u8 (a1.toNat : Int), .int .u8 (a2.toNat : Int), .int .u8 (a3.toNat : Int), .int .u8 (a4.toNat : Int), .int .u8 (a5.toNat : Int), .int .u8 (a6.toNat : Int), .int .u8 (a7.toNat : Int)]) (.agg #[.int .u8 (b0.toNat : Int), .int .u8 (b1.toNat : Int), .int .u8 (b2.toNat : Int), .int .u8 (b3.toNat : Int), .int .u8 (b4.toNat : Int), .int .u8 (b5.toNat : Int), .int .u8 (b6.toNat : Int), .int .u8 (b7.toNat : Int)])).run Tryz.prog w = .ok (decide ([a0, a1, a2, a3, a4, a5, a6, a7] = [b0, b1, b2, b3, b4, b5, b6, b7])) w := by
  rw [stampEq_run]
  congr 1
  simp only [u8eq]
  rw [Bool.eq_iff_iff]
  simp
set_option maxRecDepth 100000 in
set_option maxHeartbeats 2000000 in
theorem get_own {w0 w : World} {L : List Piece} (O : Own w0 w L) (x : List UInt8) (hx : x.length = 128) :
    Calls Tryz.prog 57 #[.string ⟨x.toArray⟩] w fun e w' => e = .returned (getV x) ∧ Own w0 w' L := by
  have hx' : (x.length : Int) = 128 := by omega
  obtain ⟨a0, a1, a2, a3, a4, a5, a6, a7, ea⟩ := eight (p := x.take 8) (by simp; omega)
  obtain ⟨b0, b1, b2, b3, b4, b5, b6, b7, eb⟩ := eight (p := x.drop 120) (by simp; omega)
  have EA := Lib.hid ea
  have EB := Lib.hid eb
  clear ea eb
  go_enter Tryz.func57, Tryz.ntmps57
  go_wp2_with fail
  refine (ends_own O x hx).mono ?_
  clear O
  rintro e w1 ⟨rfl, O⟩
  rw [EA.out, EB.out]
  unfold agU8 U8
  go_upto_region 4 with fail
  have O1 := O.newBox (U8 [a0, a1, a2, a3, a4, a5, a6, a7]) 110
  have O2 := O1.newBox (U8 [b0, b1, b2, b3, b4, b5, b6, b7]) 110
  clear O O1
  obtain ⟨b, hb⟩ : ∃ b, b = w1.heap.size := ⟨_, rfl⟩
  have hb2 : (w1.alloc (.cells (U8 [a0, a1, a2, a3, a4, a5, a6, a7]) 110)).heap.size = b + 1 := by rw [hb]; simp
  rw [hb2, ← hb] at O2
  obtain ⟨W, hW⟩ : ∃ W, W = (w1.alloc (.cells (U8 [a0, a1, a2, a3, a4, a5, a6, a7]) 110)).alloc (.cells (U8 [b0, b1, b2, b3, b4, b5, b6, b7]) 110) := ⟨_, rfl⟩
  rw [← hW] at O2
  rw [← hb]
  change Code.wp _ _ _ _ ((w1.alloc (.cells (U8 [a0, a1, a2, a3, a4, a5, a6, a7]) 110)).alloc (.cells (U8 [b0, b1, b2, b3, b4, b5, b6, b7]) 110))
  rw [← hW]
  clear hb hb2 hW
  have O3 := O2.drew
  replace O2 := O3.pick 1
  have kc1 : (convert 57 9 (.slice (some ⟨b, 0, none⟩) 4 4)).run Tryz.prog W.drew = .ok (.string ⟨#[a0, a1, a2, a3]⟩) W.drew := O2.boxBytes 0 4 4 (by simp)
  have kc2 : (convert 57 9 (.slice (some ⟨b, 4, none⟩) 4 4)).run Tryz.prog W.drew = .ok (.string ⟨#[a4, a5, a6, a7]⟩) W.drew := O2.boxBytes 4 4 4 (by simp)
  have h4a : [a0, a1, a2, a3].length ≤ 4 := by simp
  have h4b : [a4, a5, a6, a7].length ≤ 4 := by simp
  have ca0 : W.drew.cell? ⟨b, 0, none⟩ = some (.int .u8 (a0.toNat : Int)) := by rw [O2.cell]; rfl
  have cb0 : W.drew.cell? ⟨b + 1, 0, none⟩ = some (.int .u8 (b0.toNat : Int)) := by rw [O3.cell]; rfl
  have ca1 : W.drew.cell? ⟨b, 1, none⟩ = some (.int .u8 (a1.toNat : Int)) := by rw [O2.cell]; rfl
  have cb1 : W.drew.cell? ⟨b + 1, 1, none⟩ = some (.int .u8 (b1.toNat : Int)) := by rw [O3.cell]; rfl
  have ca2 : W.drew.cell? ⟨b, 2, none⟩ = some (.int .u8 (a2.toNat : Int)) := by rw [O2.cell]; rfl
  have cb2 : W.drew.cell? ⟨b + 1, 2, none⟩ = some (.int .u8 (b2.toNat : Int)) := by rw [O3.cell]; rfl
  have ca3 : W.drew.cell? ⟨b, 3, none⟩ = some (.int .u8 (a3.toNat : Int)) := by rw [O2.cell]; rfl
  have cb3 : W.drew.cell? ⟨b + 1, 3, none⟩ = some (.int .u8 (b3.toNat : Int)) := by rw [O3.cell]; rfl
  have ca4 : W.drew.cell? ⟨b, 4, none⟩ = some (.int .u8 (a4.toNat : Int)) := by rw [O2.cell]; rfl
  have cb4 : W.drew.cell? ⟨b + 1, 4, none⟩ = some (.int .u8 (b4.toNat : Int)) := by rw [O3.cell]; rfl
  have ca5 : W.drew.cell? ⟨b, 5, none⟩ = some (.int .u8 (a5.toNat : Int)) := by rw [O2.cell]; rfl
  have cb5 : W.drew.cell? ⟨b + 1, 5, none⟩ = some (.int .u8 (b5.toNat : Int)) := by rw [O3.cell]; rfl
  have ca6 : W.drew.cell? ⟨b, 6, none⟩ = some (.int .u8 (a6.toNat : Int)) := by rw [O2.cell]; rfl
  have cb6 : W.drew.cell? ⟨b + 1, 6, none⟩ = some (.int .u8 (b6.toNat : Int)) := by rw [O3.cell]; rfl
  have ca7 : W.drew.cell? ⟨b, 7, none⟩ = some (.int .u8 (a7.toNat : Int)) := by rw [O2.cell]; rfl
  have cb7 : W.drew.cell? ⟨b + 1, 7, none⟩ = some (.int .u8 (b7.toNat : Int)) := by rw [O3.cell]; rfl
  have O4 := Lib.hid O2.drop.drop
  clear O2 O3 h4a h4b
  go_region_held3 (fun w' => (convert 57 9 (.slice (some ⟨b, 0, none⟩) 4 4)).run Tryz.prog w' = .ok (.string ⟨#[a0, a1, a2, a3]⟩) w' ∧ (convert 57 9 (.slice (some ⟨b, 4, none⟩) 4 4)).run Tryz.prog w' = .ok (.string ⟨#[a4, a5, a6, a7]⟩) w')
    (with_reducible exact And.intro kc1 kc2)
    (first
      | (go_at_call 60; (with_reducible refine (number_any [a0, a1, a2, a3] (by simp) _).mono ?_); rintro e w4 ⟨rfl, rfl⟩)
      | (go_at_call 60; (with_reducible refine (number_any [a4, a5, a6, a7] (by simp) _).mono ?_); rintro e w4 ⟨rfl, rfl⟩))
  obtain ⟨A, hA⟩ : ∃ A : Int, A = (numL [a0, a1, a2, a3] : Nat) := ⟨_, rfl⟩
  obtain ⟨P, hP⟩ : ∃ P : Int, P = (numL [a4, a5, a6, a7] : Nat) := ⟨_, rfl⟩
  rw [← hA, ← hP]
  have HA := Lib.hid hA
  have HP := Lib.hid hP
  clear hA hP
  clear kc1 kc2
  have eq : ∀ w' : World, (Op.equalIn 10000 110 (.agg #[.int .u8 (a0.toNat : Int), .int .u8 (a1.toNat : Int), .int .u8 (a2.toNat : Int), .int .u8 (a3.toNat : Int), .int .u8 (a4.toNat : Int), .int .u8 (a5.toNat : Int), .int .u8 (a6.toNat : Int), .int .u8 (a7.toNat : Int)]) (.agg #[.int .u8 (b0.toNat : Int), .int .u8 (b1.toNat : Int), .int .u8 (b2.toNat : Int), .int .u8 (b3.toNat : Int), .int .u8 (b4.toNat : Int), .int .u8 (b5.toNat : Int), .int .u8 (b6.toNat : Int), .int .u8 (b7.toNat : Int)])).run Tryz.prog w' = .ok (decide ([a0, a1, a2, a3, a4, a5, a6, a7] = [b0, b1, b2, b3, b4, b5, b6, b7])) w' := fun w' => stampEq_bytes _ _ _ _ _ _ _ _ _ _ _ _ _ _ _ _ w'
  obtain ⟨E, hE⟩ : ∃ E, E = decide ([a0, a1, a2, a3, a4, a5, a6, a7] = [b0, b1, b2, b3, b4, b5, b6, b7]) := ⟨_, rfl⟩
  rw [← hE] at eq
  have HE := Lib.hid hE
  clear hE
  have hb : getB x = (E && mayB A P) := by
    have e1 := EA.out
    have e2 := EB.out
    unfold getB
    rw [decide_eq_true hx, Bool.true_and, e1, e2, HE.out, getA, getP, take4, drop4, e1]
    show _ = (_ && mayB _ _)
    rw [HA.out, HP.out]
    rfl
  have HB := Lib.hid hb
  clear hb
  cases E
  · go_wp2
    go_returns
    rw [getV_false (by rw [HB.out]; rfl)]
    exact ⟨rfl, O4.out⟩
  · go_wp2_with fail
    refine (may11_any A P _).mono ?_
    rintro e w2 ⟨rfl, rfl⟩
    obtain ⟨M, hM⟩ : ∃ M, M = mayB A P := ⟨_, rfl⟩
    rw [← hM]
    have HM := Lib.hid hM
    clear hM
    cases M
    · go_wp2
      go_returns
      rw [getV_false (by rw [HB.out, ← HM.out]; rfl)]
      exact ⟨rfl, O4.out⟩
    · have E1 : (⟨x.toArray⟩ : ByteArray).extract 8 120 = ⟨(getT x).toArray⟩ := by
        rw [mk_extract]
        exact congrArg (fun l : List UInt8 => (⟨l.toArray⟩ : ByteArray)) (by unfold getT; rw [List.drop_take])
      have hw2 : 120 ≤ x.length := by omega
      have EA1 : (A : Int) = (getA x : Int) := by rw [HA.out, getA, take4, EA.out]; rfl
      have EP1 : (P : Int) = (getP x : Int) := by rw [HP.out, getP, drop4, EA.out]; rfl
      have EA2 := Lib.hid EA1
      have EP2 := Lib.hid EP1
      clear EA1 EP1
      go_wp2_with fail
      go_quiet (fail)
      go_wp2
      go_returns
      rw [getV_true (by rw [HB.out, ← HM.out]; rfl), EA2.out, EP2.out]
      exact ⟨rfl, O4.out.drewN _⟩
theorem getV_short {x : List UInt8} (h : x.length ≠ 128) : getB x = false := by unfold getB; rw [decide_eq_false h]; rfl
theorem get_any {w0 w : World} {L : List Piece} (O : Own w0 w L) (x : List UInt8) :
    Calls Tryz.prog 57 #[.string ⟨x.toArray⟩] w fun e w' => e = .returned (getV x) ∧ Own w0 w' L := by
  by_cases hx : x.length = 128
  · exact get_own O x hx
  · have hx' : ¬ (x.length : Int) = 128 := by omega
    go_enter Tryz.func57, Tryz.ntmps57
    go_wp2
    go_returns
    rw [getV_false (getV_short hx)]
    exact ⟨rfl, O⟩
set_option maxRecDepth 100000 in
set_option maxHeartbeats 2000000 in
theorem age_any {w0 w : World} {L : List Piece} (O : Own w0 w L) (x : List UInt8) :
    Calls Tryz.prog 43 #[.string ⟨x.toArray⟩] w fun e w' => e = .returned (.int .i64 (ageS x)) ∧ Own w0 w' L := by
  by_cases hx : x.length = 128
  rotate_left
  · have hx' : ¬ (x.length : Int) = 128 := by omega
    have e : ageS x = 0 := by unfold ageS; rw [if_neg hx]
    rw [e]
    go_enter Tryz.func43, Tryz.ntmps43
    go_wp2
    go_returns
    exact ⟨rfl, O⟩
  have hx' : (x.length : Int) = 128 := by omega
  obtain ⟨a0, a1, a2, a3, a4, a5, a6, a7, ea⟩ := eight (p := x.take 8) (by simp; omega)
  obtain ⟨b0, b1, b2, b3, b4, b5, b6, b7, eb⟩ := eight (p := x.drop 120) (by simp; omega)
  obtain ⟨R, hR⟩ : ∃ R : Nat, R = ageS x := ⟨_, rfl⟩
  rw [← hR]
  have hr : R = max (numL [a0, a1, a2, a3]) (numL [b0, b1, b2, b3]) := by
    rw [hR]
    unfold ageS
    rw [if_pos hx, take4, ea, eb]
    rfl
  have HR := Lib.hid hr
  have EA := Lib.hid ea
  have EB := Lib.hid eb
  clear ea eb hr hR
  go_enter Tryz.func43, Tryz.ntmps43
  go_wp2_with fail
  refine (ends_own O x hx).mono ?_
  clear O
  rintro e w1 ⟨rfl, O⟩
  rw [EA.out, EB.out]
  unfold agU8 U8
  go_upto_region 4 with fail
  have O1 := O.newBox (U8 [a0, a1, a2, a3, a4, a5, a6, a7]) 110
  have O2 := O1.newBox (U8 [b0, b1, b2, b3, b4, b5, b6, b7]) 110
  clear O O1
  obtain ⟨b, hb⟩ : ∃ b, b = w1.heap.size := ⟨_, rfl⟩
  have hb2 : (w1.alloc (.cells (U8 [a0, a1, a2, a3, a4, a5, a6, a7]) 110)).heap.size = b + 1 := by rw [hb]; simp
  rw [hb2, ← hb] at O2
  obtain ⟨W, hW⟩ : ∃ W, W = (w1.alloc (.cells (U8 [a0, a1, a2, a3, a4, a5, a6, a7]) 110)).alloc (.cells (U8 [b0, b1, b2, b3, b4, b5, b6, b7]) 110) := ⟨_, rfl⟩
  rw [← hW] at O2
  rw [← hb]
  change Code.wp _ _ _ _ ((w1.alloc (.cells (U8 [a0, a1, a2, a3, a4, a5, a6, a7]) 110)).alloc (.cells (U8 [b0, b1, b2, b3, b4, b5, b6, b7]) 110))
  rw [← hW]
  clear hb hb2 hW
  have O3 := O2.drew
  replace O2 := O3.pick 1
  have kc1 : (convert 57 9 (.slice (some ⟨b, 0, none⟩) 4 8)).run Tryz.prog W.drew = .ok (.string ⟨#[a0, a1, a2, a3]⟩) W.drew := O2.boxBytes 0 4 8 (by simp)
  have kc2 : (convert 57 9 (.slice (some ⟨b + 1, 0, none⟩) 4 8)).run Tryz.prog W.drew = .ok (.string ⟨#[b0, b1, b2, b3]⟩) W.drew := O3.boxBytes 0 4 8 (by simp)
  have O4 := Lib.hid O2.drop.drop
  clear O2 O3
  go_region_held3 (fun w' => (convert 57 9 (.slice (some ⟨b, 0, none⟩) 4 8)).run Tryz.prog w' = .ok (.string ⟨#[a0, a1, a2, a3]⟩) w' ∧ (convert 57 9 (.slice (some ⟨b + 1, 0, none⟩) 4 8)).run Tryz.prog w' = .ok (.string ⟨#[b0, b1, b2, b3]⟩) w')
    (with_reducible exact And.intro kc1 kc2)
    (first
      | (go_at_call 60; (with_reducible refine (number_any [a0, a1, a2, a3] (by simp) _).mono ?_); rintro e w4 ⟨rfl, rfl⟩)
      | (go_at_call 60; (with_reducible refine (number_any [b0, b1, b2, b3] (by simp) _).mono ?_); rintro e w4 ⟨rfl, rfl⟩))
  go_wp2
  go_returns
  rw [HR.out]
  exact ⟨by simp; omega, O4.out⟩
end Go.Proofs.YtnlppcjfpmnahaaGreatDoor
