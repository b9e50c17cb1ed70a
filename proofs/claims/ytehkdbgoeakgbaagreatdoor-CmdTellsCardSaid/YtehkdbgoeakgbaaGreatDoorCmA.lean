/- cmd: great. -/
import Derived.Test.YtehkdbgoeakgbaaGreatDoorCmQ
import Derived.Test.YtehkdbgoeakgbaaGreatDoorCmBa
import Derived.Outline
namespace Go.Proofs.YtehkdbgoeakgbaaGreatDoor
set_option linter.all false
open Go.RowKit

theorem upC_small {c : UInt8} (h1 : 97 ≤ (c.toNat : Int)) (h2 : (c.toNat : Int) ≤ 122) : ((upC c).toNat : Int) = (c.toNat : Int) - 97 + 65 := by
  unfold upC
  rw [if_pos (by omega)]
  simp; omega
theorem upC_not {c : UInt8} (h : (c.toNat : Int) < 97 ∨ 122 < (c.toNat : Int)) : upC c = c := by unfold upC; rw [if_neg (by omega)]
theorem upL_len (s : List UInt8) : (upL s).length = s.length := by simp [upL]
/-- the first k bytes small -/
def upK (s : List UInt8) (k : Nat) : List UInt8 := upL (s.take k) ++ s.drop k
theorem upK_zero (s : List UInt8) : upK s 0 = s := rfl
theorem upK_all (s : List UInt8) : upK s s.length = upL s := by simp [upK]
theorem upK_len (s : List UInt8) (k : Nat) : (upK s k).length = s.length := by simp [upK, upL]; omega
theorem upK_at {s : List UInt8} {k : Nat} (h : k < s.length) : (upK s k)[k]'(by rw [upK_len]; exact h) = s[k] := by
  have hk : (upL (s.take k)).length = k := by simp [upL]; omega
  simp only [upK]
  rw [List.getElem_append_right (by omega)]
  simp [hk]
theorem upK_succ {s : List UInt8} {k : Nat} (h : k < s.length) : upK s (k + 1) = (upK s k).set k (upC s[k]) := by
  apply List.ext_getElem
  · rw [upK_len, List.length_set, upK_len]
  · intro j h1 h2
    have hk : (upL (s.take k)).length = k := by simp [upL]; omega
    have hk1 : (upL (s.take (k + 1))).length = k + 1 := by simp [upL]; omega
    have hj : j < s.length := by rw [upK_len] at h1; exact h1
    rw [List.getElem_set]
    simp only [upK]
    by_cases e : k = j
    · subst e
      rw [if_pos rfl, List.getElem_append_left (by omega)]
      simp [upL]
    · rw [if_neg e]
      by_cases q : j < k
      · rw [List.getElem_append_left (by omega), List.getElem_append_left (by omega)]
        simp [upL]
      · rw [List.getElem_append_right (by omega), List.getElem_append_right (by omega)]
        simp only [List.getElem_drop, hk, hk1]
        congr 1; omega
theorem upK_same {s : List UInt8} {k : Nat} (h : k < s.length) (e : upC s[k] = s[k]) : upK s (k + 1) = upK s k := by
  rw [upK_succ h, e]
  have := upK_at h
  conv => lhs; rw [← this]
  exact List.set_getElem_self _
set_option maxHeartbeats 1000000 in
theorem great7_own {w0 w : World} {L : List Piece} (O : Own w0 w L) (s : List UInt8) (hs : s.length ≤ 1000000000) :
    Calls Tryz.prog 34 #[.string ⟨s.toArray⟩] w fun e w' => e = .returned (.string ⟨(upL s).toArray⟩) ∧ Own w0 w' L := by
  obtain ⟨g, cap, W1, hcv, O1⟩ := O.toBytes s
  go_enter Tryz.func34, Tryz.ntmps34
  go_wp2_with fail
  go_loopw [10] (fun iv wr => ∃ k : Nat, k ≤ s.length ∧ iv = .int .i64 k ∧ Own w0 wr (bytes g (upK s k) :: L)) (fun iv _ => s.length - (intOf iv).toNat)
  case atStart => exact ⟨0, by omega, rfl, O1⟩
  case round =>
    clear O O1 hcv
    obtain ⟨k, hk, rfl, O⟩ := hrel
    by_cases hlt : k < s.length
    · have hb1 : (k : Int) < (s.length : Int) := by omega
      obtain ⟨r1, r2⟩ := O.byteCell k (by rw [upK_len]; exact hlt)
      rw [upK_at hlt] at r1
      by_cases c1 : 97 ≤ (s[k].toNat : Int)
      · by_cases c2 : (s[k].toNat : Int) ≤ 122
        · have LG := Lib.hid (upC_small c1 c2)
          have ST := Lib.hid (upK_succ hlt)
          have s1 : IntKind.u8.wrap ((s[k].toNat : Int) - 97) = (s[k].toNat : Int) - 97 := IntWalk.u8_in _ (by omega)
          have s2 : IntKind.u8.wrap ((s[k].toNat : Int) - 97 + 65) = (s[k].toNat : Int) - 97 + 65 := IntWalk.u8_in _ (by omega)
          go_wp2_with fail
          go_roundw
          case rel => exact ⟨k + 1, by omega, by go_num, by rw [← LG.out, ST.out]; exact O.setByte k _⟩
          case measure => simp [intOf]; omega
        · have EQ := Lib.hid (upK_same hlt (upC_not (by omega)))
          go_wp2_with fail
          go_roundw
          case rel => exact ⟨k + 1, by omega, by go_num, by rw [EQ.out]; exact O⟩
          case measure => simp [intOf]; omega
      · have EQ := Lib.hid (upK_same hlt (upC_not (by omega)))
        go_wp2_with fail
        go_roundw
        case rel => exact ⟨k + 1, by omega, by go_num, by rw [EQ.out]; exact O⟩
        case measure => simp [intOf]; omega
    · obtain rfl : k = s.length := by omega
      have hcv := O.fromBytes cap
      rw [upK_len, upK_all] at hcv
      go_wp2
      go_ret
      exact ⟨rfl, O.drop⟩
end Go.Proofs.YtehkdbgoeakgbaaGreatDoor
