/- mailroomlaw03.many. -/
import Derived.Test.YtcndlomnnkmopaaNameE
import Derived.Test.YtcndlomnnkmopaaMake
namespace Go.Proofs.Ytcndlomnnkmopaa
set_option linter.all false
open Go.RowKit Go.Shelf

set_option maxHeartbeats 1000000 in
theorem many_any (c : UInt8) (n : Nat) (hn : n ≤ 1000) (w : World) :
    Calls Try.prog 29 #[.int .u8 (c.toNat : Int), .int .i64 n] w fun e w' => e = .returned (.string ⟨(List.replicate n c).toArray⟩) ∧ Chg [] w w' := by
  go_enter Try.func29, Try.ntmps29
  go_wp2_with (at_make; refine wpList_make_bytes rfl _ rfl n rfl (by omega) (Own.start w) ?_)
  intro g w' O
  go_wp2_with fail
  go_loopw [6] (fun iv wr => ∃ k : Nat, k ≤ n ∧ iv = .int .i64 k ∧ Own w wr [bytes g (List.replicate k c ++ List.replicate (n - k) 0)]) (fun iv _ => n - (intOf iv).toNat)
  case atStart => exact ⟨0, by omega, rfl, by simpa using O⟩
  case round =>
    clear O
    obtain ⟨k, hk, rfl, O⟩ := hrel
    by_cases hlt : k < n
    · have hb1 : (k : Int) < (n : Int) := by omega
      have hkl : k < (List.replicate k c ++ List.replicate (n - k) (0 : UInt8)).length := by simp; omega
      obtain ⟨r1, r2⟩ := O.byteCell k hkl
      have O2 := O.setByte k c
      have E : (List.replicate k c ++ List.replicate (n - k) (0 : UInt8)).set k c = List.replicate (k + 1) c ++ List.replicate (n - (k + 1)) 0 := by
        obtain ⟨m, hm⟩ : ∃ m, n - k = m + 1 := ⟨n - k - 1, by omega⟩
        rw [hm, show n - (k + 1) = m from by omega, List.set_append_right _ _ (by simp), List.replicate_succ, List.replicate_succ' (n := k)]
        simp
      rw [E] at O2
      obtain ⟨u, r3⟩ : ∃ u : Int, wr.cell? ⟨g, k, none⟩ = some (.int .u8 u) := ⟨_, r1⟩
      clear r1 E hkl
      go_wp2
      go_roundw
      case rel => exact ⟨k + 1, by omega, by go_num, O2⟩
      case measure => simp [intOf]; omega
    · obtain rfl : k = n := by omega
      have hb1 : ¬ (k : Int) < (k : Int) := by omega
      rw [Nat.sub_self, List.replicate_zero, List.append_nil] at O
      have hcv := O.fromBytes k
      rw [List.length_replicate] at hcv
      go_wp2
      go_ret
      exact ⟨rfl, O.chg⟩
end Go.Proofs.Ytcndlomnnkmopaa
