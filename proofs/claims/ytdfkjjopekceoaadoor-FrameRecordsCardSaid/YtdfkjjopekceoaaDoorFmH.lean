/- frame: many, awake. -/
import Derived.Test.YtdfkjjopekceoaaDoorFmF
import Derived.Test.YtdfkjjopekceoaaDoorFmG
import Derived.OwnWalk
namespace Go.Proofs.YtdfkjjopekceoaaDoor
set_option linter.all false
open Go.RowKit

set_option maxHeartbeats 1000000 in
theorem fill_any (c : UInt8) (n : Nat) (hn : n ≤ 1000) (w : World) :
    Calls Tryd.prog 23 #[.int .u8 (c.toNat : Int), .int .i64 n] w fun e w' => e = .returned (.string ⟨(List.replicate n c).toArray⟩) ∧ Chg [] w w' := by
  go_enter Tryd.func23, Tryd.ntmps23
  go_wp2_with (at_make; refine wpList_make_bytes rfl _ rfl n rfl (by omega) (Own.start w) ?_)
  intro g w' O
  go_wp2_with fail
  go_loopw [6] (fun iv wr => ∃ k : Nat, k ≤ n ∧ iv = .int .i64 k ∧ Own w wr [bytes g (List.replicate k c ++ List.replicate (n - k) 0)]) (fun iv _ => n - (intOf iv).toNat)
  case atStart => exact ⟨0, by omega, rfl, by simpa using O⟩
  case round =>
    clear O
    obtain ⟨k, hk, rfl, O⟩ := hrel
    by_cases hlt : k < n
    · have hb1 : (k : Int) < (n : Int) := by omega
      have hkl : k < (List.replicate k c ++ List.replicate (n - k) (0 : UInt8)).length := by simp; omega
      obtain ⟨r1, r2⟩ := O.byteCell k hkl
      have O2 := O.setByte k c
      have E : (List.replicate k c ++ List.replicate (n - k) (0 : UInt8)).set k c = List.replicate (k + 1) c ++ List.replicate (n - (k + 1)) 0 := by
        obtain ⟨m, hm⟩ : ∃ m, n - k = m + 1 := ⟨n - k - 1, by omega⟩
        rw [hm, show n - (k + 1) = m from by omega, List.set_append_right _ _ (by simp), List.replicate_succ, List.replicate_succ' (n := k)]
        simp
      rw [E] at O2
      obtain ⟨u, r3⟩ : ∃ u : Int, wr.cell? ⟨g, k, none⟩ = some (.int .u8 u) := ⟨_, r1⟩
      clear r1 E hkl
      go_wp2
      go_roundw
      case rel => exact ⟨k + 1, by omega, by go_num, O2⟩
      case measure => simp [intOf]; omega
    · obtain rfl : k = n := by omega
      have hb1 : ¬ (k : Int) < (k : Int) := by omega
      rw [Nat.sub_self, List.replicate_zero, List.append_nil] at O
      have hcv := O.fromBytes k
      rw [List.length_replicate] at hcv
      go_wp2
      go_ret
      exact ⟨rfl, O.chg⟩
def awS : List (List UInt8) := splitL 1 5 (List.replicate 107 120)
def awL0 : List UInt8 := putS 1 5 ([2, 0, 107, 0, 0, 0] ++ List.replicate 106 120)
def awL1 : List UInt8 := putS 1 6 [120]
theorem awS_is : awS = [awL0, awL1] := by kernel_rfl
theorem awS_join : joinB 1 5 awS = true := by kernel_rfl
theorem awS_text : joinT awS = List.replicate 107 120 := by kernel_rfl
theorem awS_many : joinM awS = 2 := by kernel_rfl
theorem awS_age : joinB 2 5 awS = false := by kernel_rfl
theorem awS_place : joinB 1 6 awS = false := by kernel_rfl
theorem aw_get : getB awL1 = true := by kernel_rfl
theorem aw_place : getP awL1 = 6 := by kernel_rfl
theorem aw_sub : (awL0.drop 8).take 6 = [2, 0, 107, 0, 0, 0] := by kernel_rfl
theorem aw_len : awL0.length = 128 := by kernel_rfl
theorem aw_len1 : awL1.length = 128 := by kernel_rfl
theorem aw_put : putS 1 0 [97, 98] = ((([1] ++ List.replicate 7 0) ++ [97, 98]) ++ List.replicate 110 0) ++ ([1] ++ List.replicate 7 0) := by kernel_rfl
theorem aw_may : mayB 1 0 = true := by kernel_rfl
theorem aw_may5 : mayB 1 5 = true := by kernel_rfl
theorem aw_many : manyN 107 = 2 := by kernel_rfl
end Go.Proofs.YtdfkjjopekceoaaDoor
