/- LineNames: the walk. -/
import Derived.Test.YtkgfdmfkmcbecaaLineG
namespace Go.Proofs.Ytkgfdmfkmcbecaa
set_option linter.all false
open Go.RowKit Go.Shelf

def zeros : List UInt8 := List.replicate 510 0
def z13 : List UInt8 := zeros ++ [13]
theorem zeros_len : zeros.length = 510 := by kernel_rfl
theorem full1 : feedL (Fr.zero 512) (zeros ++ 13 :: 10 :: zeros) = ([zeros], 0, ⟨512, zeros, false⟩) := by kernel_rfl
theorem full2 : feedL ⟨512, zeros, false⟩ [13] = ([], 0, ⟨512, z13, false⟩) := by kernel_rfl
theorem full3 : feedL ⟨512, z13, false⟩ (10 :: (zeros ++ [13])) = ([zeros], 0, ⟨512, z13, false⟩) := by kernel_rfl
theorem full4 : feedL ⟨512, z13, false⟩ [13] = ([], 40, ⟨512, [], true⟩) := by kernel_rfl

theorem nil_left (w : World) : Calls Try.prog 14 #[.pointer none] w fun e w' => e = .returned (.string ⟨#[]⟩) ∧ w = w' := by
  go_enter Try.func14, Try.ntmps14
  go_wp2
  go_ret
  exact ⟨rfl, rfl⟩
theorem nil_dead (w : World) : Calls Try.prog 15 #[.pointer none] w fun e w' => e = .returned (.bool false) ∧ w = w' := by
  go_enter Try.func15, Try.ntmps15
  go_wp2
  go_ret
  exact ⟨rfl, rfl⟩
theorem nil_copy (w : World) : Calls Try.prog 18 #[.pointer none] w fun e w' => e = .returned (.pointer none) ∧ w = w' := by
  go_enter Try.func18, Try.ntmps18
  go_wp2
  go_ret
  exact ⟨rfl, rfl⟩
theorem nil_reset (w : World) : Calls Try.prog 17 #[.pointer none] w fun e w' => e = .returned (.tuple #[]) ∧ w = w' := by
  go_enter Try.func17, Try.ntmps17
  go_wp2
  go_end0
  exact ⟨rfl, rfl⟩
theorem nil_feed (w : World) (s : List UInt8) : Calls Try.prog 12 #[.pointer none, .string ⟨s.toArray⟩] w fun e w' => e = .returned (.tuple #[.slice none 0 0, .int .i64 2]) ∧ Chg [] w w' := by
  refine (callsIn_wide (n := 3)).1 ?_
  refine callsIn_of_wp_marks Try.func12 rfl trivial ?_
  simp only [Try.ntmps12, List.size_toArray, List.length_cons, List.length_nil, Nat.reduceAdd, Nat.reduceSub, Array.replicate_succ, Array.replicate_zero, List.push_toArray, List.append_toArray, List.nil_append, List.cons_append]
  gi_wp2
  refine ⟨.tuple #[.slice none 0 0, .int .i64 2], by simp [results, Try.results12, go_sem], rfl, (((Chg.refl _ _).alloc _).alloc _).alloc _⟩

def mosts : List Int := [1, 0, -1, 513, 1099511627776]
theorem mosts_bad (k : Nat) (h : k < 5) : ¬ (2 ≤ mosts.getD k 0 ∧ mosts.getD k 0 ≤ 512) := by
  obtain rfl | rfl | rfl | rfl | rfl : k = 0 ∨ k = 1 ∨ k = 2 ∨ k = 3 ∨ k = 4 := by omega
  all_goals decide

set_option maxRecDepth 100000 in
set_option maxHeartbeats 4000000 in
theorem lineNames_walk (w : World) (m : Int) (hm : w.cell? ⟨0, 0, none⟩ = some (.int .i64 m)) :
    Calls Try.prog 6 #[] w fun e w' => e = .returned (.bool true) ∧ Below w.heap.size w w' := by
  have HM := Lib.hid hm; clear hm
  have O := Own.start w
  obtain ⟨z, hz⟩ : ∃ l, l = zeros := ⟨_, rfl⟩
  have zl : z.length = 510 := by rw [hz]; exact zeros_len
  have Z := Lib.hid hz; clear hz
  go_enter Try.func6, Try.ntmps6
  go_wp2_with fail
  refine (nil_reset _).mono ?_
  rintro e w1 ⟨rfl, rfl⟩
  go_wp2_with fail
  refine (nil_feed _ [97, 13, 10]).mono ?_
  rintro e w1 ⟨rfl, ch⟩
  replace O := O.pure ch; clear ch
  go_wp2_with fail
  refine (awake_any _ m (O.chg.cell HM.out (by simp))).mono ?_
  rintro e w2 ⟨rfl, ch⟩
  replace O := O.pure ch; clear ch
  go_wp2_with fail
  refine (nil_left _).mono ?_
  rintro e w3 ⟨rfl, rfl⟩
  go_wp2_with fail
  refine (nil_dead _).mono ?_
  rintro e w3 ⟨rfl, rfl⟩
  go_wp2_with fail
  refine (nil_copy _).mono ?_
  rintro e w3 ⟨rfl, rfl⟩
  obtain ⟨b1, hb1⟩ : ∃ b, b = w2.heap.size := ⟨_, rfl⟩
  replace O := (O.newBox (mosts.map (Value.int .i64)).toArray 3)
  rw [← hb1] at O
  go_wp2_with fail
  rw [← hb1]
  clear hb1
  go_loopw [67] (fun iv wr => ∃ k : Nat, k ≤ 5 ∧ iv = .int .i64 k ∧ Own w wr [box b1 (mosts.map (Value.int .i64)).toArray 3]) (fun iv _ => 5 - (intOf iv).toNat)
  case atStart => exact ⟨0, by omega, rfl, O⟩
  case round =>
    clear O
    obtain ⟨k, hk, rfl, O⟩ := hrel
    by_cases hlt : k < 5
    · have hb1 : (k : Int) < 5 := by omega
      have hx := mosts_bad k hlt
      have c := O.cell k
      have hmk : (mosts.map (Value.int .i64)).toArray[k]? = some (Value.int .i64 (mosts.getD k 0)) := by
        have hl : k < mosts.length := hlt
        simp [hl]
      rw [hmk] at c
      obtain ⟨x, hxx⟩ : ∃ x, x = mosts.getD k 0 := ⟨_, rfl⟩
      rw [← hxx] at c hx
      have X := Lib.hid hx
      clear hx hxx hmk
      go_wp2_with fail
      clear c
      refine (lnew_bad x X.out).mono ?_
      rintro e w9 ⟨rfl, rfl⟩
      go_wp2
      go_roundw
      case rel => exact ⟨k + 1, by omega, by go_num, O⟩
      case measure => simp [intOf]; omega
    · have hb1 : ¬ (k : Int) < 5 := by omega
      clear hlt
      go_wp2_with fail
      refine (lnew_own O 2 (by decide) (by decide)).mono ?_
      clear O
      rintro e w4 ⟨p, rfl, O⟩
      go_wp2_with fail
      refine (feed_is HM.out (s := [13, 10, 13, 10, 13]) O (ls := [[], []]) (er := 0) (f' := ⟨2, [13], false⟩) (by kernel_rfl) (by decide) (by decide)).mono ?_
      clear O
      rintro e w5 ⟨v1, rfl, O⟩
      obtain ⟨a1, cap1, rfl⟩ := O.shape
      go_wp2_with fail
      refine (feed_is HM.out (s := [10]) (O.pick 1) (ls := [[]]) (er := 0) (f' := ⟨2, [], false⟩) (by kernel_rfl) (by decide) (by decide)).mono ?_
      clear O
      rintro e w5 ⟨v2, rfl, O⟩
      obtain ⟨a2, cap2, rfl⟩ := O.shape
      go_wp2_with fail
      refine (feed_is HM.out (s := [97]) (O.pick 1) (ls := []) (er := 0) (f' := ⟨2, [97], false⟩) (by kernel_rfl) (by decide) (by decide)).mono ?_
      clear O
      rintro e w5 ⟨v3, rfl, O⟩
      obtain ⟨a3, cap3, rfl⟩ := O.shape
      go_wp2_with fail
      refine (feed_is HM.out (s := [13]) (O.pick 1) (ls := []) (er := 40) (f' := ⟨2, [], true⟩) (by kernel_rfl) (by decide) (by decide)).mono ?_
      clear O
      rintro e w5 ⟨v4, rfl, O⟩
      obtain ⟨a4, cap4, rfl⟩ := O.shape
      go_wp2_with fail
      refine (feed_is HM.out (s := [13, 10]) (O.pick 1) (ls := []) (er := 7) (f' := ⟨2, [], true⟩) (by kernel_rfl) (by decide) (by decide)).mono ?_
      clear O
      rintro e w5 ⟨v5, rfl, O⟩
      obtain ⟨a5, cap5, rfl⟩ := O.shape
      go_wp2_with fail
      refine (lreset_own (O.pick 1)).mono ?_
      clear O
      rintro e w5 ⟨rfl, O⟩
      go_wp2_with fail
      refine (feed_is HM.out (s := [13, 10, 97, 98, 13, 10]) O (ls := [[]]) (er := 40) (f' := ⟨2, [], true⟩) (by kernel_rfl) (by decide) (by decide)).mono ?_
      clear O
      rintro e w5 ⟨v6, rfl, O⟩
      obtain ⟨a6, cap6, rfl⟩ := O.shape
      go_wp2_with fail
      refine (same_lit O [[]] (by decide) true (by decide)).mono ?_
      clear O
      rintro e w6 ⟨rfl, O⟩
      go_wp2_with fail
      refine (ldead_own (O.pick 1)).mono ?_
      rintro e w7 ⟨rfl, rfl⟩
      replace O := O.sel []
      try simp only [List.map_cons, List.map_nil, List.getD_cons_zero, List.getD_cons_succ, List.eraseIdx_cons_zero, List.eraseIdx_cons_succ, List.getElem_cons_zero, List.getElem_cons_succ] at O
      go_wp2_with fail
      refine (lnew_own O 512 (by decide) (by decide)).mono ?_
      clear O
      rintro e w7 ⟨q, rfl, O⟩
      go_wp2_with (at_make; refine wpList_make_named rfl _ rfl 510 rfl (by omega) z Z.out O ?_)
      intro g w8 O8
      have hcv := O8.fromBytes 510
      rw [zl] at hcv
      replace O := O8.drop; clear O8
      go_wp2_with fail
      clear hcv
      refine (feed_is HM.out (s := z ++ 13 :: 10 :: z) O (ls := [z]) (er := 0) (f' := ⟨512, z, false⟩) (by rw [Z.out]; exact full1) (by simp <;> omega) (by decide)).mono ?_
      clear O
      rintro e w9 ⟨v1, rfl, O⟩
      obtain ⟨a1, cap1, rfl⟩ := O.shape
      go_wp2_with fail
      refine (feed_is HM.out (s := [13]) (O.pick 1) (ls := []) (er := 0) (f' := ⟨512, z ++ [13], false⟩) (by rw [Z.out]; exact full2) (by decide) (by dsimp only; omega)).mono ?_
      clear O
      rintro e w9 ⟨v2, rfl, O⟩
      obtain ⟨a2, cap2, rfl⟩ := O.shape
      go_wp2_with fail
      refine (feed_is HM.out (s := 10 :: (z ++ [13])) (O.pick 1) (ls := [z]) (er := 0) (f' := ⟨512, z ++ [13], false⟩) (by rw [Z.out]; exact full3) (by simp <;> omega) (by simp <;> omega)).mono ?_
      clear O
      rintro e w9 ⟨v3, rfl, O⟩
      obtain ⟨a3, cap3, rfl⟩ := O.shape
      go_wp2_with fail
      refine (feed_is HM.out (s := [13]) (O.pick 1) (ls := []) (er := 40) (f' := ⟨512, [], true⟩) (by rw [Z.out]; exact full4) (by decide) (by simp <;> omega)).mono ?_
      clear O
      rintro e w9 ⟨v4, rfl, O⟩
      obtain ⟨a4, cap4, rfl⟩ := O.shape
      try simp only [List.map_cons, List.map_nil, List.getD_cons_zero, List.getD_cons_succ, List.eraseIdx_cons_zero, List.eraseIdx_cons_succ, List.getElem_cons_zero, List.getElem_cons_succ] at O
      rcases row_shape' (O.pick 4).row with h | ⟨g1, c1, h⟩
      · simp only [Value.slice.injEq] at h; simp at h
      simp only [Value.slice.injEq] at h
      obtain ⟨rfl, -, rfl⟩ := h
      obtain ⟨-, ca, -⟩ := (O.pick 4).readRow 0 (by simp)
      replace ca : w9.cell? ⟨g1, 0, none⟩ = some (.string ⟨z.toArray⟩) := ca
      have i1 := fr_str z
      go_wp2
      go_ret
      exact ⟨rfl, O.below⟩
end Go.Proofs.Ytkgfdmfkmcbecaa
