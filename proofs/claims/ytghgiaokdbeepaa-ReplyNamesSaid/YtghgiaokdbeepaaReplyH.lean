/- mailroomlaw05.long; reply.Show. -/
import Derived.Test.YtghgiaokdbeepaaReplyClassW
import Derived.WalkLawsBesides
namespace Go.Proofs.Ytghgiaokdbeepaa
set_option linter.all false
open Go.RowKit

/-- long told no: what is in the list is short -/
def ShortBy (n : Nat) (ls : List (List UInt8)) : Prop := (∀ j (h : j < ls.length), ls[j].length < n) ∧ 5 * ls.length < n

def LongPost (ls : List (List UInt8)) (w : World) (e : Ending) (w' : World) : Prop := ∃ b : Bool, e = .returned (.bool b) ∧ w = w' ∧ (b = false → ShortBy 9000 ls)

set_option maxHeartbeats 1000000 in
theorem long_any (w : World) (v : Value) (ls : List (List UInt8)) (G : List Nat) (h : StrsR w v ls G) (hb : ∀ s ∈ ls, s.length ≤ maxLen) (hn : ls.length ≤ maxLen) :
    Calls Try.prog 14 #[v] w (LongPost ls w) := by
  obtain ⟨a, cap, rfl, hr⟩ := h
  unfold maxLen at hb hn
  have HB := Lib.hid hb; clear hb
  have HR := Lib.hid hr; clear hr
  go_enter Try.func14, Try.ntmps14
  go_wp2
  go_loop [3, 4] (fun n i => ∃ k m : Nat, k ≤ ls.length ∧ n = .int .i64 m ∧ i = .int .i64 k ∧ m ≤ 19000 ∧ 5 * k ≤ m ∧ (∀ j, j < k → ∀ h : j < ls.length, min 9000 ls[j].length + 1 ≤ m)) (fun _ i => ls.length - (intOf i).toNat)
  case atStart => exact ⟨0, 0, by omega, rfl, rfl, by omega, by omega, fun j hj => by omega⟩
  case round =>
    obtain ⟨k, m, hk, rfl, rfl, hm, h5, hall⟩ := hrel
    have A := Lib.hid hall; clear hall
    by_cases hlt : k < ls.length
    · by_cases hm9 : (m : Int) < 9000
      · obtain ⟨g, off, rfl, _, hc⟩ := HR.out (by omega)
        have c := hc k hlt
        clear hc
        have hlen : ls[k].length ≤ 9223372036854775807 := HB.out _ (List.getElem_mem hlt)
        have hb1 : (k : Int) < (ls.length : Int) := by omega
        rcases Nat.lt_or_ge ls[k].length 9000 with h9 | h9
        · have h9' : (ls[k].length : Int) < 9000 := by omega
          go_wp2
          go_round
          case rel => exact ⟨k + 1, m + 5 + ls[k].length, by omega, by go_num, by go_num, by omega, by omega, fun j hj hjl => by
            by_cases e : j = k
            · subst e; omega
            · have := A.out j (by omega) hjl; omega⟩
          case measure => simp [intOf]; omega
        · have h9' : ¬ (ls[k].length : Int) < 9000 := by omega
          go_wp2
          go_round
          case rel => exact ⟨k + 1, m + 5 + 9000, by omega, by go_num, by go_num, by omega, by omega, fun j hj hjl => by
            by_cases e : j = k
            · subst e; omega
            · have := A.out j (by omega) hjl; omega⟩
          case measure => simp [intOf]; omega
      · go_wp2
        go_ret
        exact ⟨true, rfl, rfl, by simp⟩
    · by_cases hm9 : (9000 : Int) ≤ (m : Int)
      · go_wp2
        go_ret
        exact ⟨true, rfl, rfl, by simp⟩
      · go_wp2
        go_ret
        exact ⟨false, rfl, rfl, fun _ => ⟨fun j hj => by have := A.out j (by omega) hj; omega, by omega⟩⟩
end Go.Proofs.Ytghgiaokdbeepaa
