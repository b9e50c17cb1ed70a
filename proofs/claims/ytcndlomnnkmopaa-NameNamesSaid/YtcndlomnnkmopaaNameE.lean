/- mailroomlaw03.awake. -/
import Derived.Test.YtcndlomnnkmopaaNameD
namespace Go.Proofs.Ytcndlomnnkmopaa
set_option linter.all false
open Go.RowKit Go.Shelf

theorem Own.litCell {w0 w : World} {L : List Piece} {b : Nat} {ss : List (List UInt8)} {ty : TypeId} (O : Own w0 w (box b (ss.map str).toArray ty :: L)) (k : Nat) (hk : k < ss.length) : w.cell? ⟨b, k, none⟩ = some (.string ⟨ss[k].toArray⟩) := by
  rw [O.cell k]; simp [hk, str]
theorem Own.recast {w0 w : World} {L L' : List Piece} (h : Own w0 w L) (e : L = L') : Own w0 w L' := e ▸ h
theorem may_is {l : List UInt8} {b : Bool} (hb : may l = b) (w : World) (hl : l.length ≤ 1000000000) :
    Calls Try.prog 12 #[.string ⟨l.toArray⟩] w fun e w' => e = .returned (.bool b) ∧ Chg [] w w' := by rw [← hb]; exact may_any l w hl
def bads : List (List UInt8) := [[97, 46, 46, 98], [45, 97, 46, 98], [97, 46, 98, 45], [], [97, 46, 49], [49, 46, 50, 46, 51, 46, 52]]
theorem bads_not : ∀ k (h : k < 6), may (bads[k]'h) = false := by
  intro k h
  obtain rfl | rfl | rfl | rfl | rfl | rfl : k = 0 ∨ k = 1 ∨ k = 2 ∨ k = 3 ∨ k = 4 ∨ k = 5 := by omega
  all_goals kernel_rfl
theorem bads_len : ∀ k (h : k < 6), (bads[k]'h).length ≤ 1000 := by
  intro k h
  obtain rfl | rfl | rfl | rfl | rfl | rfl : k = 0 ∨ k = 1 ∨ k = 2 ∨ k = 3 ∨ k = 4 ∨ k = 5 := by omega
  all_goals simp [bads]

set_option maxRecDepth 100000 in
set_option maxHeartbeats 2000000 in
theorem awake_any (w : World) : Calls Try.prog 10 #[] w fun e w' => e = .returned (.bool true) ∧ Chg [] w w' := by
  go_enter Try.func10, Try.ntmps10
  go_wp2_with fail
  refine (fold_any [77, 120, 49, 46, 69, 120, 97, 109, 112, 108, 101, 46, 67, 79, 77, 46] _ (by decide)).mono ?_
  rw [show foldV [77, 120, 49, 46, 69, 120, 97, 109, 112, 108, 101, 46, 67, 79, 77, 46] = .tuple #[.string ⟨#[109, 120, 49, 46, 101, 120, 97, 109, 112, 108, 101, 46, 99, 111, 109]⟩, .int .i64 0] from by kernel_rfl]
  rintro e w1 ⟨rfl, ch1⟩
  go_wp2_with fail
  refine (under_any [95, 109, 116, 97, 45, 115, 116, 115, 46] [101, 120, 97, 109, 112, 108, 101, 46, 99, 111, 109] _ (by decide) (by decide)).mono ?_
  rw [show underV [95, 109, 116, 97, 45, 115, 116, 115, 46] [101, 120, 97, 109, 112, 108, 101, 46, 99, 111, 109] = .tuple #[.string ⟨#[95, 109, 116, 97, 45, 115, 116, 115, 46, 101, 120, 97, 109, 112, 108, 101, 46, 99, 111, 109]⟩, .bool true] from by kernel_rfl]
  rintro e w2 ⟨rfl, ch2⟩
  have O := ((Own.start w).pure ch1).pure ch2
  clear ch1 ch2
  replace O := (O.newBox (bads.map str).toArray 9)
  go_wp2_with fail
  go_loopw [17] (fun iv wr => ∃ k : Nat, k ≤ 6 ∧ iv = .int .i64 k ∧ Own w wr [box w2.heap.size (bads.map str).toArray 9]) (fun iv _ => 6 - (intOf iv).toNat)
  case atStart => exact ⟨0, by omega, rfl, O⟩
  case round =>
    clear O
    obtain ⟨k, hk, rfl, O⟩ := hrel
    by_cases hlt : k < 6
    · have c := O.litCell k (by simpa [bads] using hlt)
      have hb1 : (k : Int) < 6 := by omega
      have B1 := Lib.hid (bads_not k hlt); have B2 := Lib.hid (bads_len k hlt)
      go_wp2_with fail
      refine (may_is B1.out _ (by have := B2.out; omega)).mono ?_
      rintro e w3 ⟨rfl, ch3⟩
      replace O := O.pure ch3
      go_wp2
      go_roundw
      case rel => exact ⟨k + 1, by omega, by go_num, O⟩
      case measure => simp [intOf]; omega
    · have hb1 : ¬ (k : Int) < 6 := by omega
      go_wp2_with fail
      refine (may_is (l := [109, 120, 49, 46, 101, 120, 97, 109, 112, 108, 101, 46, 99, 111, 109]) (b := true) (by kernel_rfl) _ (by decide)).mono ?_
      rintro e w3 ⟨rfl, ch3⟩
      replace O := O.pure ch3
      clear ch3
      go_wp2_with fail
      refine (may_is (l := [120, 110, 45, 45, 98, 99, 104, 101, 114, 45, 107, 118, 97, 46, 101, 120, 97, 109, 112, 108, 101]) (b := true) (by kernel_rfl) _ (by decide)).mono ?_
      rintro e w4 ⟨rfl, ch3⟩
      replace O := O.pure ch3
      clear ch3
      go_wp2_with fail
      refine (may_is (l := [108, 111, 99, 97, 108, 104, 111, 115, 116]) (b := true) (by kernel_rfl) _ (by decide)).mono ?_
      rintro e w5 ⟨rfl, ch3⟩
      replace O := O.pure ch3
      clear ch3
      go_wp2_with fail
      refine (match_any [42, 46, 101, 120, 97, 109, 112, 108, 101, 46, 99, 111, 109] [97, 46, 101, 120, 97, 109, 112, 108, 101, 46, 99, 111, 109] _ (by decide) (by decide) true (by kernel_rfl)).mono ?_
      rintro e w6 ⟨rfl, ch3⟩
      replace O := O.pure ch3
      clear ch3
      go_wp2_with fail
      refine (match_any [42, 46, 101, 120, 97, 109, 112, 108, 101, 46, 99, 111, 109] [101, 120, 97, 109, 112, 108, 101, 46, 99, 111, 109] _ (by decide) (by decide) false (by kernel_rfl)).mono ?_
      rintro e w7 ⟨rfl, ch3⟩
      replace O := O.pure ch3
      clear ch3
      go_wp2_with fail
      refine (match_any [42, 46, 101, 120, 97, 109, 112, 108, 101, 46, 99, 111, 109] [97, 46, 98, 46, 101, 120, 97, 109, 112, 108, 101, 46, 99, 111, 109] _ (by decide) (by decide) false (by kernel_rfl)).mono ?_
      rintro e w8 ⟨rfl, ch3⟩
      replace O := O.pure ch3
      clear ch3
      go_wp2
      go_ret
      exact ⟨rfl, O.chg⟩
end Go.Proofs.Ytcndlomnnkmopaa
