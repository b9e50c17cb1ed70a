/- mailroomref05.Same. -/
import Derived.Test.YtghgiaokdbeepaaReplyN
namespace Go.Proofs.Ytghgiaokdbeepaa
set_option linter.all false
open Go.RowKit

set_option maxHeartbeats 2000000 in
theorem same5_any (w : World) (x y : Rep) (sx sy : Value) (Gx Gy : List Nat) (hx : StrsR w sx x.lines Gx) (hy : StrsR w sy y.lines Gy) (hl : x.lines.length ≤ 1000000000) (hl2 : y.lines.length ≤ 1000000000) (b : Bool)
    (hb : decide (x.code = y.code ∧ x.status = y.status ∧ x.lines = y.lines) = b) :
    Calls Try.prog 26 #[.agg #[.int .i64 x.code, .string ⟨x.status.toArray⟩, sx], .agg #[.int .i64 y.code, .string ⟨y.status.toArray⟩, sy]] w fun e w' => e = .returned (.bool b) ∧ Chg [] w w' := by
  have HB := Lib.hid hb; clear hb
  obtain ⟨ax, cx, rfl, hrx⟩ := hx
  obtain ⟨ay, cy, rfl, hry⟩ := hy
  have A := Lib.hid hrx; clear hrx
  have B := Lib.hid hry; clear hry
  by_cases h1 : x.code = y.code
  rotate_left
  · have h1' : (x.code != y.code) = true := by simp [h1]
    have E : b = false := by rw [← HB.out]; simp [h1]
    clear h1
    subst E
    go_enter Try.func26, Try.ntmps26
    go_wp2
    go_ret
    exact ⟨rfl, ((Chg.refl _ _).alloc _).alloc _⟩
  have h1' : (x.code != y.code) = false := by simp [h1]
  by_cases h2 : x.status = y.status
  rotate_left
  · have h2' : (x.status != y.status) = true := by simp [h2]
    have h2'' : (x.status == y.status) = false := by simp [h2]
    have E : b = false := by rw [← HB.out]; simp [h2]
    clear h1 h2
    subst E
    go_enter Try.func26, Try.ntmps26
    go_wp2
    go_ret
    exact ⟨rfl, ((Chg.refl _ _).alloc _).alloc _⟩
  have h2' : (x.status != y.status) = false := by simp [h2]
  have h2'' : (x.status == y.status) = true := by simp [h2]
  have E : b = decide (x.lines = y.lines) := by rw [← HB.out]; simp [h1, h2]
  have HE := Lib.hid E
  clear h1 h2 HB E
  by_cases hn : x.lines.length = y.lines.length
  rotate_left
  · have hn' : ((x.lines.length : Int) != (y.lines.length : Int)) = true := by simp; omega
    have E : b = false := by rw [HE.out, decide_eq_false_iff_not]; intro h; exact hn (by rw [h])
    clear hn
    subst E
    go_enter Try.func26, Try.ntmps26
    go_wp2
    go_ret
    exact ⟨rfl, ((Chg.refl _ _).alloc _).alloc _⟩
  have hn' : ((x.lines.length : Int) != (y.lines.length : Int)) = false := by simp [hn]
  have N := Lib.hid hn; clear hn
  obtain ⟨W2, hW2⟩ : ∃ W2, W2 = (w.alloc (.cells #[.int .i64 x.code, .string ⟨x.status.toArray⟩, .slice ax x.lines.length cx] 44)).alloc (.cells #[.int .i64 y.code, .string ⟨y.status.toArray⟩, .slice ay y.lines.length cy] 44) := ⟨_, rfl⟩
  have C2 : Hid (Chg [] w W2) := by rw [hW2]; exact ((Chg.refl _ _).alloc _).alloc _
  have x2 : W2.cell? ⟨w.heap.size, 2, none⟩ = some (.slice ax x.lines.length cx) := by rw [hW2, cell_at (alloc_keeps (heap_alloc_new w _) _)]; rfl
  have y2 : W2.cell? ⟨w.heap.size + 1, 2, none⟩ = some (.slice ay y.lines.length cy) := by rw [hW2, cell_at (new_at (by simp))]; rfl
  have W2H := Lib.hid hW2
  clear hW2
  go_enter Try.func26, Try.ntmps26
  go_wp2
  rw [← W2H.out]
  clear W2H
  go_loopw [5] (fun i wr => ∃ k n : Nat, k ≤ x.lines.length ∧ i = .int .i64 k ∧ wr = W2.drewN n ∧ x.lines.take k = y.lines.take k) (fun i _ => x.lines.length - (intOf i).toNat)
  case atStart => exact ⟨0, 0, by omega, rfl, rfl, rfl⟩
  case round =>
    obtain ⟨k, n, hk, rfl, rfl, ht⟩ := hrel
    have T := Lib.hid ht; clear ht
    by_cases hlt : k < x.lines.length
    · obtain ⟨g, off, rfl, _, hc⟩ := A.out (by omega)
      obtain ⟨g', off', rfl, _, hc'⟩ := B.out (by have := N.out; omega)
      have hlt' : k < y.lines.length := by have := N.out; omega
      have c1 := C2.out.cell (hc k hlt) (by simp)
      have c2 := C2.out.cell (hc' k hlt') (by simp)
      clear hc hc'
      have hb1 : (k : Int) < (x.lines.length : Int) := by omega
      have hb2 : (k : Int) < (y.lines.length : Int) := by omega
      by_cases he : x.lines[k] = y.lines[k]
      · have he' : (x.lines[k] == y.lines[k]) = true := by simp [he]
        have he2 : (x.lines[k] != y.lines[k]) = false := by simp [he]
        have HQ := Lib.hid he; clear he
        go_wp2
        go_quiet (fail)
        go_wp2
        go_roundw
        case rel => exact ⟨k + 1, _, by omega, by go_num, rfl, take_eq_snoc hlt hlt' T.out HQ.out⟩
        case measure => simp [intOf]; omega
      · have he' : (x.lines[k] == y.lines[k]) = false := by simp [he]
        have he2 : (x.lines[k] != y.lines[k]) = true := by simp [he]
        have HQ := Lib.hid he; clear he
        go_wp2
        go_quiet (fail)
        go_wp2
        go_ret
        exact ⟨ret_bool (by rw [HE.out]; symm; rw [decide_eq_false_iff_not]; intro h; exact HQ.out (by simp only [h])), (C2.out.drewN _).drewN _⟩
    · go_wp2
      go_ret
      refine ⟨ret_bool ?_, C2.out.drewN _⟩
      have h := T.out
      rw [List.take_of_length_le (by omega), List.take_of_length_le (by have := N.out; omega)] at h
      rw [HE.out, h]; simp
end Go.Proofs.Ytghgiaokdbeepaa
