/- LineReset: the walk. -/
import Derived.Test.YtkgfdmfkmcbecaaLineG
namespace Go.Proofs.Ytkgfdmfkmcbecaa
set_option linter.all false
open Go.RowKit Go.Shelf

set_option maxRecDepth 100000 in
set_option maxHeartbeats 2000000 in
theorem lineReset_walk (w : World) (m : Int) (hm : w.cell? ⟨0, 0, none⟩ = some (.int .i64 m)) (most : Int) (hmost : (Lit.int IntKind.i64 most).wf = true) (s : List UInt8) (hs : s.length ≤ 140737488351232) (t : List UInt8) (ht : t.length ≤ 140737488351232) :
    Calls Try.prog 5 #[.int .i64 most, .string ⟨s.toArray⟩, .string ⟨t.toArray⟩] w fun e w' => e = .returned (.bool true) ∧ Below w.heap.size w w' := by
  have HM := Lib.hid hm; clear hm
  have O := Own.start w
  go_enter Try.func5, Try.ntmps5
  by_cases hlong : 6000 < (s.length : Int) + (t.length : Int)
  · go_wp2_with fail
    refine (awake_any _ m HM.out).mono ?_
    rintro e w2 ⟨rfl, ch⟩
    replace O := O.pure ch
    go_wp2
    go_ret
    exact ⟨rfl, O.below⟩
  have hlong' : ¬ 6000 < (s.length : Int) + (t.length : Int) := hlong
  go_wp2_with fail
  refine (awake_any _ m HM.out).mono ?_
  rintro e w2 ⟨rfl, ch⟩
  replace O := O.pure ch; clear ch
  by_cases hb : 2 ≤ most ∧ most ≤ 512
  rotate_left
  · go_wp2_with fail
    refine (lnew_bad most hb).mono ?_
    rintro e w3 ⟨rfl, rfl⟩
    go_wp2_with fail
    refine (lnew_bad most hb).mono ?_
    rintro e w3 ⟨rfl, rfl⟩
    go_wp2
    go_ret
    exact ⟨rfl, O.below⟩
  go_wp2_with fail
  refine (lnew_own O most hb.1 hb.2).mono ?_
  clear O
  rintro e w3 ⟨p, rfl, O⟩
  go_wp2_with fail
  refine (lnew_own O most hb.1 hb.2).mono ?_
  clear O
  rintro e w4 ⟨q, rfl, O⟩
  obtain ⟨⟨l1, e1, f1⟩, hF1⟩ : ∃ r, feedL (Fr.zero most) s = r := ⟨_, rfl⟩
  obtain ⟨⟨l2, e2, f2⟩, hF2⟩ : ∃ r, feedL (Fr.zero most) t = r := ⟨_, rfl⟩
  have B1 := feed_bound (Fr.zero most) s
  have B2 := feed_bound (Fr.zero most) t
  rw [hF1] at B1
  rw [hF2] at B2
  obtain ⟨b1, b2, b3⟩ := B1
  obtain ⟨c1, c2, c3⟩ := B2
  simp only [Fr.zero, List.length_nil, Nat.zero_add] at b1 b2 c1 c2
  have F1 := Lib.hid hF1; have F2 := Lib.hid hF2
  clear hF1 hF2 hb
  go_wp2_with fail
  refine (feed_is HM.out (s := s) (O.pick 1) F1.out (by omega) (Fr.zero_len _)).mono ?_
  clear O
  rintro e w5 ⟨v1, rfl, O⟩
  obtain ⟨a1, cap1, rfl⟩ := O.shape
  go_wp2_with fail
  refine (lreset_own (O.pick 1)).mono ?_
  clear O
  rintro e w6 ⟨rfl, O⟩
  try simp only [List.map_cons, List.map_nil, List.getD_cons_zero, List.getD_cons_succ, List.eraseIdx_cons_zero, List.eraseIdx_cons_succ, List.getElem_cons_zero, List.getElem_cons_succ] at O
  go_wp2_with fail
  refine (ldead_own O).mono ?_
  rintro e w7 ⟨rfl, rfl⟩
  go_wp2_with fail
  refine (lleft_own O).mono ?_
  rintro e w7 ⟨rfl, rfl⟩
  have b3' : f1.most = most := b3
  rw [b3'] at O
  go_wp2_with fail
  refine (feed_is HM.out (s := t) O F2.out (by omega) (Fr.zero_len _)).mono ?_
  clear O
  rintro e w7 ⟨v2, rfl, O⟩
  obtain ⟨a2, cap2, rfl⟩ := O.shape
  go_wp2_with fail
  refine (feed_is HM.out (s := t) (O.pick 3) F2.out (by omega) (Fr.zero_len _)).mono ?_
  clear O
  rintro e w8 ⟨v3, rfl, O⟩
  obtain ⟨a3, cap3, rfl⟩ := O.shape
  try simp only [List.map_cons, List.map_nil, List.getD_cons_zero, List.getD_cons_succ, List.eraseIdx_cons_zero, List.eraseIdx_cons_succ, List.getElem_cons_zero, List.getElem_cons_succ] at O
  have i1 := fr_int e2; have i2 := fr_str f2.left; have i3 := fr_bool f2.dead
  go_wp2_with fail
  refine (same_own (O.pick 2) _ l2 _ O.strsR (by omega) true (by simp)).mono ?_
  clear O
  rintro e w9 ⟨rfl, O⟩
  try simp only [List.map_cons, List.map_nil, List.getD_cons_zero, List.getD_cons_succ, List.eraseIdx_cons_zero, List.eraseIdx_cons_succ, List.getElem_cons_zero, List.getElem_cons_succ] at O
  go_wp2_with fail
  refine (lleft_own (O.pick 3)).mono ?_
  rintro e w10 ⟨rfl, rfl⟩
  go_wp2_with fail
  refine (lleft_own (O.pick 2)).mono ?_
  rintro e w10 ⟨rfl, rfl⟩
  go_wp2_with fail
  refine (ldead_own (O.pick 3)).mono ?_
  rintro e w10 ⟨rfl, rfl⟩
  go_wp2_with fail
  refine (ldead_own (O.pick 2)).mono ?_
  rintro e w10 ⟨rfl, rfl⟩
  go_wp2
  go_ret
  exact ⟨rfl, O.below⟩
end Go.Proofs.Ytkgfdmfkmcbecaa
