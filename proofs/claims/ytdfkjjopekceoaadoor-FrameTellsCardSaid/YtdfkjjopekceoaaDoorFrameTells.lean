/- FrameTells: the walk. -/
import Derived.Test.YtdfkjjopekceoaaDoorFmW
namespace Go.Proofs.YtdfkjjopekceoaaDoor
set_option linter.all false
open Go.RowKit

theorem getV_is (x : List UInt8) : ∃ (A P : Int) (T : List UInt8) (b : Bool), getV x = .tuple #[.int .i64 A, .int .i64 P, .string ⟨T.toArray⟩, .bool b] := by
  unfold getV
  cases getB x
  · exact ⟨0, 0, [], false, rfl⟩
  · exact ⟨_, _, _, true, rfl⟩
set_option maxRecDepth 100000 in
set_option maxHeartbeats 4000000 in
theorem frameTells_walk {w : World} (age : Int) (ha : (Lit.int .i64 age).wf = true) (place : Int) (hp : (Lit.int .i64 place).wf = true) (s : List UInt8) (hs : s.length ≤ 140737488351232) (x : List UInt8) (hx : x.length ≤ 140737488351232) :
    Calls Tryd.prog 6 #[.int .i64 age, .int .i64 place, .string ⟨s.toArray⟩, .string ⟨x.toArray⟩] w fun e w' => e = .returned (.bool true) ∧ Below w.heap.size w w' := by
  have O := Own.start w
  go_enter Tryd.func6, Tryd.ntmps6
  by_cases hs3 : (5000 : Int) < (s.length : Int)
  · go_wp2_with fail
    refine (awake11 O).mono ?_
    rintro e w1 ⟨rfl, O1⟩
    go_wp2
    go_returns
    exact ⟨rfl, O1.below⟩
  by_cases hb3 : (5000 : Int) < (x.length : Int)
  · go_wp2_with fail
    refine (awake11 O).mono ?_
    rintro e w1 ⟨rfl, O1⟩
    go_wp2
    go_returns
    exact ⟨rfl, O1.below⟩
  go_wp2_with fail
  refine (put_any O age place s).mono ?_
  clear O
  rintro e w1 ⟨rfl, O⟩
  obtain ⟨X, hX⟩ : ∃ X, X = putX age place s := ⟨_, rfl⟩
  obtain ⟨E, hE⟩ : ∃ E, E = putE age place s := ⟨_, rfl⟩
  rw [← hX, ← hE]
  have HX := Lib.hid hX
  have HE := Lib.hid hE
  clear hX hE
  go_wp2_with fail
  refine (putR_any O age place s).mono ?_
  clear O
  rintro e w2 ⟨rfl, O⟩
  rw [← HX.out, ← HE.out]
  have O1 := O.newBox #[.string ⟨x.toArray⟩, .string ⟨X.toArray⟩] 9
  obtain ⟨b, hb⟩ : ∃ b, b = w2.heap.size := ⟨_, rfl⟩
  rw [← hb] at O1
  have HB := Lib.hid hb
  clear O hb
  go_wp2_with fail
  rw [← HB.out]
  go_loopw [58] (fun iv wr => ∃ i : Nat, iv = .int .i64 i ∧ i ≤ 2 ∧ Own w wr [box b #[.string ⟨x.toArray⟩, .string ⟨X.toArray⟩] 9]) (fun iv _ => 2 - (intOf iv).toNat)
  case atStart => exact ⟨0, rfl, by omega, O1⟩
  case round =>
    clear O1
    obtain ⟨i, rfl, hi, O⟩ := hrel
    by_cases hlt : i < 2
    · have hb1 : (i : Int) < 2 := by omega
      obtain ⟨t, ct⟩ : ∃ t : List UInt8, wr.cell? ⟨b, i, none⟩ = some (.string ⟨t.toArray⟩) := by
        rw [O.cell]
        match i, hlt with
        | 0, _ => exact ⟨x, rfl⟩
        | 1, _ => exact ⟨X, rfl⟩
      obtain ⟨A, P, T, B, hV⟩ := getV_is t
      have HV := Lib.hid hV
      have wi : IntKind.i64.wrap ((i : Int) + 1) = (i : Int) + 1 := i64_wraps _ (by omega) (by omega)
      clear hV
      go_wp2_with fail
      refine (get_any O t).mono ?_
      clear O ct
      rintro e w3 ⟨rfl, O⟩
      rw [HV.out]
      go_wp2_with fail
      refine (getR_any O t).mono ?_
      clear O
      rintro e w4 ⟨rfl, O⟩
      rw [HV.out]
      go_wp2_with fail
      refine (age_any O t).mono ?_
      clear O
      rintro e w5 ⟨rfl, O⟩
      go_wp2_with fail
      refine (ageR_any O t).mono ?_
      clear O
      rintro e w6 ⟨rfl, O⟩
      go_wp2
      exact ⟨⟨i + 1, by go_num, by omega, O⟩, by simp [intOf]; omega⟩
    · have hb1 : ¬ (i : Int) < 2 := by omega
      go_wp2_with fail
      refine (awake11 O).mono ?_
      clear O
      rintro e w7 ⟨rfl, O⟩
      go_wp2
      go_returns
      exact ⟨rfl, O.below⟩
end Go.Proofs.YtdfkjjopekceoaaDoor
