/- The functions of reply that only compute: Class, plain, Parse. -/
import Derived.Test.YtghgiaokdbeepaaRows
import Derived.Test.YtghgiaokdbeepaaMem
import Derived.BigQuiet
import Derived.Deep.QuietTactic
import Derived.Lib.Hide
namespace Go.Proofs.Ytghgiaokdbeepaa
set_option linter.all false
open Go.RowKit

def classOf (n : Int) : Int := if n < 200 ∨ 599 < n then 0 else n / 100

theorem class_any (n : Int) (w : World) : Calls Try.prog 11 #[.int .i64 n] w fun e w' => e = .returned (.int .i64 (classOf n)) ∧ w = w' := by
  by_cases h1 : n < 200
  · go_enter Try.func11, Try.ntmps11
    go_wp2
    go_ret
    exact ⟨by simp [classOf, h1], rfl⟩
  · by_cases h2 : 599 < n
    · go_enter Try.func11, Try.ntmps11
      go_wp2
      go_ret
      exact ⟨by simp [classOf, h2], rfl⟩
    · go_enter Try.func11, Try.ntmps11
      go_wp2
      go_ret
      exact ⟨by simp [classOf]; omega, rfl⟩

def okByte (c : UInt8) : Bool := decide (c.toNat = 9) || (decide (32 ≤ c.toNat) && decide (c.toNat ≤ 126))

theorem all_snoc {p : UInt8 → Bool} {l : List UInt8} {k : Nat} (h : k < l.length) (ha : (l.take k).all p = true) (hp : p l[k] = true) : (l.take (k + 1)).all p = true := by
  rw [List.take_succ_eq_append_getElem h, List.all_append, ha]; simp [hp]
theorem all_not {p : UInt8 → Bool} {l : List UInt8} {k : Nat} (h : k < l.length) (hp : p l[k] = false) : l.all p = false := by
  rw [List.all_eq_false]; exact ⟨l[k], List.getElem_mem h, by simp [hp]⟩
theorem all_full {p : UInt8 → Bool} {l : List UInt8} {k : Nat} (h : ¬ k < l.length) (ha : (l.take k).all p = true) : l.all p = true := by
  rwa [List.take_of_length_le (by omega)] at ha

theorem okByte_true {c : UInt8} (h : c.toNat = 9 ∨ (32 ≤ c.toNat ∧ c.toNat ≤ 126)) : okByte c = true := by simpa [okByte] using h
theorem okByte_false {c : UInt8} (h : ¬ (c.toNat = 9 ∨ (32 ≤ c.toNat ∧ c.toNat ≤ 126))) : okByte c = false := by
  cases e : okByte c with
  | false => rfl
  | true => exact absurd (by simpa [okByte] using e) h

set_option maxHeartbeats 400000 in
theorem plain_any (l : List UInt8) (w : World) (hs : l.length ≤ maxLen) : Calls Try.prog 32 #[.string ⟨l.toArray⟩] w fun e w' => e = .returned (.bool (l.all okByte)) ∧ w = w' := by
  unfold maxLen at hs
  go_enter Try.func32, Try.ntmps32
  go_wp2
  go_loop [6] (fun i => ∃ k : Nat, k ≤ l.length ∧ i = .int .i64 k ∧ (l.take k).all okByte = true) (fun i => l.length - (intOf i).toNat)
  case atStart => exact ⟨0, Nat.zero_le _, rfl, rfl⟩
  case round =>
    obtain ⟨k, hk, rfl, hall⟩ := hrel
    have H := Lib.hid hall; clear hall
    by_cases hlt : k < l.length
    · have hc : l[k].toNat = 9 ∨ (¬ l[k].toNat = 9 ∧ l[k].toNat < 32) ∨ (¬ l[k].toNat = 9 ∧ 126 < l[k].toNat) ∨ (¬ l[k].toNat = 9 ∧ 32 ≤ l[k].toNat ∧ l[k].toNat ≤ 126) := by omega
      rcases hc with hc | ⟨hc, hd⟩ | ⟨hc, hd⟩ | ⟨hc, hd, he⟩
      all_goals
        go_wp2
        all_goals first
        | (go_round
           case rel => exact ⟨k + 1, by omega, by go_num, all_snoc hlt H.out (okByte_true (by omega))⟩
           case measure => simp [intOf]; omega)
        | (go_ret; exact ⟨ret_bool (all_not hlt (okByte_false (by omega))).symm, rfl⟩)
        | (exfalso; rename_i hx; simp at hx; omega)
    · go_wp2
      go_ret
      exact ⟨ret_bool (all_full hlt H.out).symm, rfl⟩
end Go.Proofs.Ytghgiaokdbeepaa
