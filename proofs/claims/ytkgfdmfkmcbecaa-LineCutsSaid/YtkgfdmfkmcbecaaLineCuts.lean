/- LineCuts: the walk. -/
import Derived.Test.YtkgfdmfkmcbecaaLineI
import Derived.Test.YtkgfdmfkmcbecaaLineBack
namespace Go.Proofs.Ytkgfdmfkmcbecaa
set_option linter.all false
open Go.RowKit Go.Shelf

/-- a slice of no strings, that is not nil -/
theorem Own.noStrs {w0 w : World} {L : List Piece} (h : Own w0 w L) : Own w0 (w.alloc (.cells #[] 9)) (strs (.slice (some ⟨w.heap.size, 0, none⟩) 0 0) [] :: L) :=
  h.newStrs ((Chg.refl [] w).alloc _) ⟨rfl, .inr ⟨w.heap.size, 0, #[], rfl, Nat.le_refl _, heap_alloc_new _ _, by simp, by decide, by simp, by simp⟩⟩

set_option maxRecDepth 100000 in
set_option maxHeartbeats 4000000 in
theorem lineCuts_walk (w : World) (m : Int) (hm : w.cell? ⟨0, 0, none⟩ = some (.int .i64 m)) (s : List UInt8) (hs : s.length ≤ 140737488351232) (vl : Value) (ls : List (List UInt8)) (Gl : List Nat) (sl : StrsR w vl ls Gl) (bl : ∀ s ∈ ls, s.length ≤ maxLen) (gl : ∀ k ∈ Gl, k < w.heap.size) (cl : ls.length ≤ maxLen) (hk : Kind vl) :
    Calls Try.prog 8 #[.string ⟨s.toArray⟩, vl] w fun e w' => e = .returned (.bool true) ∧ Below w.heap.size w w' := by
  obtain ⟨al, capl, hvl, hcell⟩ := id sl
  subst hvl
  clear hcell
  have HM := Lib.hid hm
  have SL := Lib.hid sl; have BL := Lib.hid bl; have HK := Lib.hid hk
  clear sl bl gl hm hk
  have O := Own.start w
  go_enter Try.func8, Try.ntmps8
  by_cases hlong : 6000 < (s.length : Int)
  · go_wp2_with fail
    refine (awake_any _ m HM.out).mono ?_
    rintro e w2 ⟨rfl, ch⟩
    replace O := O.pure ch
    go_wp2
    go_ret
    exact ⟨rfl, O.below⟩
  have hlong' : ¬ 6000 < (s.length : Int) := hlong
  go_wp2_with fail
  refine (long_any _ _ ls Gl SL.out BL.out cl).mono ?_
  rintro e w1 ⟨b1, rfl, rfl, hsh1⟩
  cases b1
  rotate_left
  · clear hsh1
    go_wp2_with fail
    refine (awake_any _ m HM.out).mono ?_
    rintro e w2 ⟨rfl, ch2⟩
    have O := O.pure ch2
    go_wp2
    go_ret
    exact ⟨rfl, O.below⟩
  obtain ⟨j6, l6⟩ := hsh1 rfl; clear hsh1
  replace O := O.noStrs
  have hcl := cutL_len s
  have hjn := congrArg List.length (cutL_join s).1
  rw [List.length_append] at hjn
  obtain ⟨⟨all, rest⟩, hC⟩ : ∃ r, cutL s = r := ⟨_, rfl⟩
  rw [hC] at hcl hjn
  dsimp only at hcl hjn
  have C1 := Lib.hid hC; clear hC
  go_wp2_with (at_builtin; refine wpList_append_strsO rfl _ _ rfl _ [] _ ls _ O rfl rfl (O.came SL.out) HK.out (by simp; omega) ?_)
  intro v1 w3 O3
  obtain ⟨a3, cap3, rfl⟩ := O3.shape
  clear O
  go_wp2_with fail
  refine (cut_is O3 HM.out C1.out (by omega)).mono ?_
  clear O3
  rintro e w4 ⟨v2, rfl, O⟩
  obtain ⟨a4, cap4, rfl⟩ := O.shape
  go_wp2_with fail
  refine (refCut_is O C1.out (by omega)).mono ?_
  clear O
  rintro e w5 ⟨v3, rfl, O⟩
  obtain ⟨a5, cap5, rfl⟩ := O.shape
  try simp only [List.map_cons, List.map_nil, List.getD_cons_zero, List.getD_cons_succ, List.eraseIdx_cons_zero, List.eraseIdx_cons_succ, List.getElem_cons_zero, List.getElem_cons_succ] at O
  go_wp2_with fail
  refine (join_is O (O.pick 2).strsR (by omega)).mono ?_
  clear O
  rintro e w6 ⟨rfl, O⟩
  go_wp2_with fail
  refine (same_own (O.pick 1) _ all _ O.strsR (by omega) true (by simp)).mono ?_
  clear O
  rintro e w7 ⟨rfl, O⟩
  try simp only [List.map_cons, List.map_nil, List.getD_cons_zero, List.getD_cons_succ, List.eraseIdx_cons_zero, List.eraseIdx_cons_succ, List.getElem_cons_zero, List.getElem_cons_succ] at O
  have i1 := fr_str rest
  have i2 := fr_str (joinL ls)
  go_wp2_with fail
  refine (refJoin_any _ _ _ _ ls _ (O.came SL.out) (by omega)).mono ?_
  rintro e w8 ⟨rfl, rfl⟩
  go_wp2_with fail
  refine (same_own (O.pick 2) _ ls _ (O.came SL.out) (by omega) true (by simp)).mono ?_
  clear O
  rintro e w8 ⟨rfl, O⟩
  go_wp2_with fail
  refine (awake_any _ m (O.chg.cell HM.out (by simp))).mono ?_
  rintro e w9 ⟨rfl, ch⟩
  have O := O.pure ch
  go_wp2
  go_ret
  exact ⟨rfl, O.below⟩
end Go.Proofs.Ytkgfdmfkmcbecaa
