/- mailroomlaw12.same (of XSame). -/
import Derived.Test.YtnlppcjfpmnahaaDoorStrs
namespace Go.Proofs.YtnlppcjfpmnahaaDoor
set_option linter.all false
open Go.RowKit

set_option maxHeartbeats 1000000 in
theorem same12_any (w : World) (va vb : Value) (ls ms : List (List UInt8)) (Ga Gb : List Nat) (ha : StrsR w va ls Ga) (hb : StrsR w vb ms Gb) (hl : ls.length ≤ 1000000000) (b : Bool) (hr : decide (ls = ms) = b) :
    Calls Tryd.prog 17 #[va, vb] w fun e w' => e = .returned (.bool b) ∧ ∃ n, w' = w.drewN n := by
  have R := Lib.hid hr; clear hr
  obtain ⟨aa, ca, rfl, hra⟩ := ha
  obtain ⟨ab, cb, rfl, hrb⟩ := hb
  by_cases hn : ls.length = ms.length
  · have hn' : ((ls.length : Int) != (ms.length : Int)) = false := by simp [hn]
    have N := Lib.hid hn; clear hn
    have A := Lib.hid hra; clear hra
    have B := Lib.hid hrb; clear hrb
    go_enter Tryd.func17, Tryd.ntmps17
    go_wp2
    go_loopw [5] (fun i wr => ∃ k n : Nat, k ≤ ls.length ∧ i = .int .i64 k ∧ wr = w.drewN n ∧ ls.take k = ms.take k) (fun i _ => ls.length - (intOf i).toNat)
    case atStart => exact ⟨0, 0, by omega, rfl, rfl, rfl⟩
    case round =>
      obtain ⟨k, n, hk, rfl, rfl, ht⟩ := hrel
      have T := Lib.hid ht; clear ht
      by_cases hlt : k < ls.length
      · obtain ⟨g, off, rfl, _, hc⟩ := A.out (by omega)
        obtain ⟨g', off', rfl, _, hc'⟩ := B.out (by have := N.out; omega)
        have hlt' : k < ms.length := by have := N.out; omega
        have c1 := hc k hlt
        have c2 := hc' k hlt'
        clear hc hc'
        have hb1 : (k : Int) < (ls.length : Int) := by omega
        have hb2 : (k : Int) < (ms.length : Int) := by omega
        by_cases he : ls[k] = ms[k]
        · have he' : (ls[k] == ms[k]) = true := by simp [he]
          have he2 : (ls[k] != ms[k]) = false := by simp [he]
          have HE := Lib.hid he; clear he
          go_wp2
          go_quiet (fail)
          go_wp2
          go_roundw
          case rel => exact ⟨k + 1, _, by omega, by go_num, rfl, take_eq_snoc hlt hlt' T.out HE.out⟩
          case measure => simp [intOf]; omega
        · have he' : (ls[k] == ms[k]) = false := by simp [he]
          have he2 : (ls[k] != ms[k]) = true := by simp [he]
          have HE := Lib.hid he; clear he
          go_wp2
          go_quiet (fail)
          go_wp2
          go_ret
          exact ⟨ret_bool (by rw [← R.out]; symm; rw [decide_eq_false_iff_not]; intro h; subst h; exact HE.out rfl), _, by rw [World.drewN_drewN]⟩
      · go_wp2
        go_ret
        refine ⟨ret_bool ?_, _, rfl⟩
        have h := T.out
        rw [List.take_of_length_le (by omega), List.take_of_length_le (by have := N.out; omega)] at h
        rw [← R.out, h]; simp
  · have hn' : ((ls.length : Int) != (ms.length : Int)) = true := by simp; omega
    have HN := Lib.hid hn; clear hn hra hrb
    go_enter Tryd.func17, Tryd.ntmps17
    go_wp2
    go_ret
    exact ⟨ret_bool (by rw [← R.out]; symm; rw [decide_eq_false_iff_not]; intro h; subst h; exact HN.out rfl), 0, rfl⟩
end Go.Proofs.YtnlppcjfpmnahaaDoor
