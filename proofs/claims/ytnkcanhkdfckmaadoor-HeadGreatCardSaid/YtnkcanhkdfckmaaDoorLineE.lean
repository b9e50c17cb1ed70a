/- line.Join. -/
import Derived.Test.YtnkcanhkdfckmaaDoorLineB
import Derived.Test.YtnkcanhkdfckmaaDoorBuilder
namespace Go.Proofs.YtnkcanhkdfckmaaDoor
set_option linter.all false
open Go.RowKit Go.Shelf

theorem joinL_le {ls : List (List UInt8)} {k : Nat} (h : k < ls.length) : (joinL (ls.take k)).length + ls[k].length + 2 ≤ (joinL ls).length := by
  have h1 : joinL ls = joinL (ls.take (k + 1)) ++ joinL (ls.drop (k + 1)) := by
    unfold joinL
    rw [← List.flatMap_append, List.take_append_drop]
  rw [h1, List.take_succ_eq_append_getElem h, joinL_snoc]
  simp [crlf]; omega
theorem joinL_count (ls : List (List UInt8)) : ls.length ≤ (joinL ls).length := by
  induction ls with
  | nil => simp
  | cons a ls ih => simp [joinL, crlf] at ih ⊢; omega
set_option maxHeartbeats 1000000 in
theorem join_any (w : World) (a : Option Addr) (n cap : Nat) (ls : List (List UInt8)) (G : List Nat) (h : StrsR w (.slice a n cap) ls G) (hl : (joinL ls).length ≤ 100000000) :
    Calls Tryd.prog 34 #[.slice a n cap] w fun e w' => e = .returned (.string ⟨(joinL ls).toArray⟩) ∧ Chg [] w w' := by
  have hn : n = ls.length := by obtain ⟨a', c', hv, _⟩ := h; simp only [Value.slice.injEq] at hv; exact hv.2.1
  subst hn
  have hcnt := joinL_count ls
  have H := Lib.hid h; clear h
  have O := (Own.start w).newBld
  obtain ⟨b, hb⟩ : ∃ b, b = w.heap.size := ⟨_, rfl⟩
  rw [← hb] at O
  go_enter Tryd.func34, Tryd.ntmps34
  go_wp2_with fail
  rw [← hb]
  clear hb
  go_loopw [8] (fun iv wr => ∃ k : Nat, k ≤ ls.length ∧ iv = .int .i64 k ∧ Own w wr [bld b (joinL (ls.take k))]) (fun iv _ => ls.length - (intOf iv).toNat)
  case atStart => exact ⟨0, by omega, rfl, O⟩
  case round =>
    clear O
    obtain ⟨k, hk, rfl, O⟩ := hrel
    by_cases hlt : k < ls.length
    · have hjl := joinL_le hlt
      obtain ⟨g, off, rfl, cell⟩ := (O.came H.out).read hlt
      have hb1 : (k : Int) < (ls.length : Int) := by omega
      have HJ : Hid (joinL (ls.take (k + 1)) = joinL (ls.take k) ++ (ls[k] ++ [13, 10])) := by unfold Hid; rw [List.take_succ_eq_append_getElem hlt, joinL_snoc]; rfl
      go_wp2_with fail
      refine (writeString_own O (ls[k] ++ [13, 10]) (by simp; omega)).mono ?_
      rintro e w2 ⟨rfl, O2⟩
      rw [← HJ.out] at O2
      go_wp2
      go_roundw
      case rel => exact ⟨k + 1, by omega, by go_num, O2⟩
      case measure => simp [intOf]; omega
    · obtain rfl : k = ls.length := by omega
      rw [List.take_length] at O
      have hb1 : ¬ (ls.length : Int) < (ls.length : Int) := by omega
      go_wp2_with fail
      refine (bstring_own O (by omega)).mono ?_
      rintro e w2 ⟨rfl, O2⟩
      go_wp2
      go_ret
      exact ⟨rfl, O2.chg⟩
end Go.Proofs.YtnkcanhkdfckmaaDoor
