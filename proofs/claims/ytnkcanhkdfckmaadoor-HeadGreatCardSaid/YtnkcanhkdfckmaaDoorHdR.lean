/- mailroomref09: lower, Like, blank, Trim, colon. -/
import Derived.Test.YtnkcanhkdfckmaaDoorHdG
namespace Go.Proofs.YtnkcanhkdfckmaaDoor
set_option linter.all false
open Go.RowKit

theorem lower_any (c : UInt8) (w : World) : Calls Tryd.prog 46 #[.int .u8 (c.toNat : Int)] w fun e w' => e = .returned (.int .u8 ((lw c).toNat : Int)) ∧ w' = w := by
  by_cases h1 : 65 ≤ (c.toNat : Int)
  · by_cases h2 : (c.toNat : Int) ≤ 90
    · have h3 := lw_great h1 h2
      have s1 : IntKind.u8.wrap ((c.toNat : Int) + 32) = (c.toNat : Int) + 32 := IntWalk.u8_in _ (by omega)
      rw [h3]
      clear h3
      go_enter Tryd.func46, Tryd.ntmps46
      go_wp2
      go_ret
      exact ⟨rfl, rfl⟩
    · rw [lw_low (by omega)]
      go_enter Tryd.func46, Tryd.ntmps46
      go_wp2
      go_ret
      exact ⟨rfl, rfl⟩
  · rw [lw_low (by omega)]
    go_enter Tryd.func46, Tryd.ntmps46
    go_wp2
    go_ret
    exact ⟨rfl, rfl⟩
def blankB (c : UInt8) : Bool := (c == 32) || (c == 9)
theorem blank_any (c : UInt8) (w : World) : Calls Tryd.prog 43 #[.int .u8 (c.toNat : Int)] w fun e w' => e = .returned (.bool (blankB c)) ∧ w' = w := by
  have c32 := bq_is c 32 32 rfl
  have c9 := bq_is c 9 9 rfl
  have HB : Hid (blankB c = ((c == 32) || (c == 9))) := rfl
  generalize blankB c = r at HB ⊢
  rcases Bool.eq_false_or_eq_true (c == 32) with q | q
  · have fin : r = true := by rw [HB.out, q]; rfl
    subst fin
    rw [q] at c32
    clear HB q
    go_enter Tryd.func43, Tryd.ntmps43
    go_wp2
    go_ret
    exact ⟨rfl, rfl⟩
  · rcases Bool.eq_false_or_eq_true (c == 9) with q9 | q9
    · have fin : r = true := by rw [HB.out, q, q9]; rfl
      subst fin
      rw [q] at c32
      rw [q9] at c9
      clear HB q q9
      go_enter Tryd.func43, Tryd.ntmps43
      go_wp2
      go_ret
      exact ⟨rfl, rfl⟩
    · have fin : r = false := by rw [HB.out, q, q9]; rfl
      subst fin
      rw [q] at c32
      rw [q9] at c9
      clear HB q q9
      go_enter Tryd.func43, Tryd.ntmps43
      go_wp2
      go_ret
      exact ⟨rfl, rfl⟩
/-- both ends cut, in whichever order -/
def cutR {α : Type} (p : α → Bool) (l : List α) : List α := (l.reverse.dropWhile p).reverse
theorem dropWhile_app {α : Type} (p : α → Bool) : ∀ (a b : List α), (a ++ b).dropWhile p = if a.all p = true then b.dropWhile p else a.dropWhile p ++ b
  | [], b => by simp
  | x :: a, b => by
    have ih := dropWhile_app p a b
    simp only [List.cons_append, List.dropWhile_cons, List.all_cons]
    cases hx : p x
    · simp
    · simp [ih]
theorem cutR_cons {α : Type} (p : α → Bool) (x : α) (l : List α) : cutR p (x :: l) = if l.all p = true then (if p x = true then [] else [x]) else x :: cutR p l := by
  unfold cutR
  rw [List.reverse_cons, dropWhile_app]
  rw [show l.reverse.all p = l.all p from by simp]
  by_cases h : l.all p = true
  · rw [if_pos h, if_pos h]
    cases hx : p x <;> simp [hx]
  · rw [if_neg h, if_neg h]; simp
theorem dropWhile_all {α : Type} (p : α → Bool) : ∀ {l : List α}, l.all p = true → l.dropWhile p = []
  | [], _ => rfl
  | x :: l, h => by
    simp only [List.all_cons, Bool.and_eq_true] at h
    rw [List.dropWhile_cons, if_pos h.1]
    exact dropWhile_all p h.2
theorem cutR_none {α : Type} (p : α → Bool) {l : List α} (h : l.all p = true) : cutR p l = [] := by
  unfold cutR
  have : l.reverse.dropWhile p = [] := dropWhile_all p (by rw [List.all_reverse]; exact h)
  rw [this]; rfl
theorem cut_comm {α : Type} (p : α → Bool) : ∀ l : List α, (cutR p l).dropWhile p = cutR p (l.dropWhile p)
  | [] => rfl
  | x :: l => by
    rw [cutR_cons, List.dropWhile_cons]
    have ih := cut_comm p l
    by_cases ha : l.all p = true
    · rw [if_pos ha]
      cases hx : p x
      · simp [hx, cutR_cons, ha]
      · rw [if_pos rfl, if_pos rfl, ← ih, cutR_none p ha]
    · rw [if_neg ha, List.dropWhile_cons]
      cases hx : p x
      · simp [cutR_cons, ha]
      · simp [ih]
theorem trimL_is (s : List UInt8) : trimL s = cutR blankB (s.dropWhile blankB) := by
  have e : (fun c : UInt8 => ([32, 9] : List UInt8).contains c) = blankB := by
    funext c
    simp only [List.contains, List.elem, blankB]
    cases (c == 32) <;> cases (c == 9) <;> rfl
  rw [← cut_comm]
  unfold trimL Lib.trimS Lib.trimLeftS Lib.trimRightS cutR
  rw [e]
set_option maxHeartbeats 2000000 in
theorem rlike_any (a b : List UInt8) (ha : a.length ≤ 1000000000) (w : World) : Calls Tryd.prog 24 #[.string ⟨a.toArray⟩, .string ⟨b.toArray⟩] w fun e w' => e = .returned (.bool (smallL a == smallL b)) ∧ ∃ n, w' = w.drewN n := by
  obtain ⟨r, hr⟩ : ∃ r, (smallL a == smallL b) = r := ⟨_, rfl⟩
  rw [hr]
  by_cases hn : a.length = b.length
  · have HN := Lib.hid hn
    have HR : Hid (r = decide (smallL a = smallL b)) := by unfold Hid; rw [← hr]; exact (Bool.beq_eq_decide_eq _ _)
    have hn' : ((a.length : Int) != (b.length : Int)) = false := by simp [hn]
    have LC := Lib.hid (fun (c : UInt8) (w : World) => lower_any c w)
    clear hr hn
    go_enter Tryd.func24, Tryd.ntmps24
    go_wp2_with fail
    go_loopw [5] (fun iv wr => ∃ k n : Nat, k ≤ a.length ∧ iv = .int .i64 k ∧ wr = w.drewN n ∧ Hid (smallL (a.take k) = smallL (b.take k))) (fun iv _ => a.length - (intOf iv).toNat)
    case atStart => exact ⟨0, 0, by omega, rfl, rfl, rfl⟩
    case round =>
      obtain ⟨k, n, hk, rfl, rfl, HT⟩ := hrel
      generalize hW : w.drewN n = W
      have HW := Lib.hid hW
      clear hW
      by_cases hlt : k < a.length
      · have hb1 : (k : Int) < (a.length : Int) := by omega
        have hlb : k < b.length := by have := HN.out; omega
        have hb2 : (k : Int) < (b.length : Int) := by omega
        have E1 := Lib.hid (fun w => LC.out a[k] w)
        have E2 := Lib.hid (fun w => LC.out b[k] w)
        have NX : Hid (lw a[k] = lw b[k] → smallL (a.take (k + 1)) = smallL (b.take (k + 1))) := by
          intro h
          unfold smallL
          rw [List.take_succ_eq_append_getElem hlt, List.take_succ_eq_append_getElem hlb, List.map_append, List.map_append]
          have := HT.out
          unfold smallL at this
          rw [this]; simp [h]
        have OFF : Hid (lw a[k] ≠ lw b[k] → r = false) := by
          intro h
          rw [HR.out, decide_eq_false_iff_not]
          intro e
          apply h
          have h1 : (smallL a)[k]? = (smallL b)[k]? := by rw [e]
          simp [smallL, hlt, hlb] at h1
          exact h1
        by_cases he : lw a[k] = lw b[k]
        · have i1 : (((lw a[k]).toNat : Int) != ((lw b[k]).toNat : Int)) = false := by rw [he]; simp
          have NX2 := Lib.hid (NX.out he)
          clear NX OFF he
          go_wp2_with fail
          go_quiet (first
            | (go_at_call 46; with_reducible exact Calls.quiet_of_same (E1.out _))
            | (go_at_call 46; with_reducible exact Calls.quiet_of_same (E2.out _)))
          go_wp2
          go_roundw
          case rel => exact ⟨k + 1, n + _, by omega, by go_num, by rw [← HW.out, World.drewN_drewN], NX2⟩
          case measure => simp [intOf]; omega
        · have i1 : (((lw a[k]).toNat : Int) != ((lw b[k]).toNat : Int)) = true := by
            simp only [bne_iff_ne, ne_eq]
            intro h; apply he; apply UInt8.toNat_inj.1; omega
          have fin := OFF.out he
          subst fin
          clear NX OFF he HR
          go_wp2_with fail
          go_quiet (first
            | (go_at_call 46; with_reducible exact Calls.quiet_of_same (E1.out _))
            | (go_at_call 46; with_reducible exact Calls.quiet_of_same (E2.out _)))
          go_wp2
          go_ret
          exact ⟨rfl, n + _, by rw [← HW.out, World.drewN_drewN]⟩
      · obtain rfl : k = a.length := by omega
        have fin : r = true := by
          rw [HR.out, decide_eq_true_iff]
          have h := HT.out
          rw [List.take_length, List.take_of_length_le (by have := HN.out; omega)] at h
          exact h
        subst fin
        clear HR
        go_wp2
        go_ret
        exact ⟨rfl, n, HW.out.symm⟩
  · have fin : r = false := by
      rw [← hr, beq_eq_false_iff_ne]
      intro h
      apply hn
      have := congrArg List.length h
      simpa [smallL] using this
    subst fin
    have hn' : ((a.length : Int) != (b.length : Int)) = true := by simp; omega
    clear hr hn
    go_enter Tryd.func24, Tryd.ntmps24
    go_wp2
    go_ret
    exact ⟨rfl, 0, rfl⟩
end Go.Proofs.YtnkcanhkdfckmaaDoor
