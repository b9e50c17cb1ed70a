/- mailroomlaw01.awake. -/
import Derived.Test.YtkgfdmfkmcbecaaLineE
namespace Go.Proofs.Ytkgfdmfkmcbecaa
set_option linter.all false
open Go.RowKit Go.Shelf

theorem same_own {w0 w : World} {L : List Piece} {v : Value} {ls : List (List UInt8)} (O : Own w0 w (strs v ls :: L)) (vb : Value) (ms : List (List UInt8)) (G : List Nat) (hb : StrsR w vb ms G) (hl : ls.length ≤ 1000000000) (b : Bool) (hr : decide (ls = ms) = b) :
    Calls Try.prog 13 #[v, vb] w fun e w' => e = .returned (.bool b) ∧ Own w0 w' (strs v ls :: L) := by
  refine (same_any w v vb ls ms _ G O.strsR hb hl b hr).mono ?_
  rintro e w' ⟨rfl, n, rfl⟩
  exact ⟨rfl, O.drewN n⟩
theorem same_lit {w0 w : World} {L : List Piece} {v : Value} {ls : List (List UInt8)} (O : Own w0 w (strs v ls :: L)) (ms : List (List UInt8)) (hl : ls.length ≤ 1000000000) (b : Bool) (hr : decide (ls = ms) = b) :
    Calls Try.prog 13 #[v, .slice (some ⟨w.heap.size, 0, none⟩) ms.length ms.length] (w.alloc (.cells (ms.map str).toArray 9)) fun e w' => e = .returned (.bool b) ∧ Own w0 w' (strs v ls :: L) :=
  same_own (O.alloc _) _ ms _ (strsR_lit w ms 9) hl b hr
theorem feed_is {w0 w : World} {L : List Piece} {p : Value} {f f' : Fr} {m : Int} (hm : w0.cell? ⟨0, 0, none⟩ = some (.int .i64 m)) {s : List UInt8} {ls : List (List UInt8)} {er : Int} (O : Own w0 w (fram p f :: L)) (hr : feedL f s = (ls, er, f')) (hs : s.length ≤ 10000000) (hf : f.left.length ≤ 10000000) :
    Calls Try.prog 12 #[p, .string ⟨s.toArray⟩] w fun e w' => ∃ v, e = .returned (.tuple #[v, .int .i64 er]) ∧ Own w0 w' (strs v ls :: fram p f' :: L) := by
  have h := feed_own m hm s hs hf O
  rw [hr] at h
  exact h
theorem cut_is {w0 w : World} {L : List Piece} (O : Own w0 w L) {m : Int} (hm : w0.cell? ⟨0, 0, none⟩ = some (.int .i64 m)) {l r : List UInt8} {ls : List (List UInt8)} (hr : cutL l = (ls, r)) (hl : l.length ≤ 100000000) :
    Calls Try.prog 16 #[.string ⟨l.toArray⟩] w fun e w' => ∃ v, e = .returned (.tuple #[v, .string ⟨r.toArray⟩]) ∧ Own w0 w' (strs v ls :: L) := by
  have h := cut_any O m hm l hl
  rw [hr] at h
  exact h

set_option maxRecDepth 100000 in
set_option maxHeartbeats 2000000 in
theorem awake_any (w : World) (m : Int) (hm : w.cell? ⟨0, 0, none⟩ = some (.int .i64 m)) : Calls Try.prog 10 #[] w fun e w' => e = .returned (.bool true) ∧ Chg [] w w' := by
  have HM := Lib.hid hm; clear hm
  go_enter Try.func10, Try.ntmps10
  go_wp2_with fail
  refine (lnew_own (Own.start w) 8 (by decide) (by decide)).mono ?_
  rintro e w1 ⟨b, rfl, O⟩
  go_wp2_with fail
  refine (feed_is HM.out (s := [97, 98, 13, 10, 99, 100]) O (ls := [[97, 98]]) (er := 0) (f' := ⟨8, [99, 100], false⟩) (by kernel_rfl) (by decide) (by decide)).mono ?_
  clear O
  rintro e w2 ⟨v1, rfl, O⟩
  obtain ⟨a1, cap1, rfl⟩ := O.shape
  go_wp2_with fail
  refine (lleft_own (O.pick 1)).mono ?_
  rintro e w3 ⟨rfl, rfl⟩
  go_wp2_with fail
  refine (feed_is HM.out (s := [10, 13, 101, 13, 10, 102]) (O.pick 1) (ls := [[99, 100, 10, 13, 101]]) (er := 0) (f' := ⟨8, [102], false⟩) (by kernel_rfl) (by decide) (by decide)).mono ?_
  clear O
  rintro e w2 ⟨v2, rfl, O⟩
  obtain ⟨a2, cap2, rfl⟩ := O.shape
  go_wp2_with fail
  refine (feed_is HM.out (s := [103, 104, 105, 106, 107, 108, 109]) (O.pick 1) (ls := []) (er := 40) (f' := ⟨8, [], true⟩) (by kernel_rfl) (by decide) (by decide)).mono ?_
  clear O
  rintro e w2 ⟨v3, rfl, O⟩
  obtain ⟨a3, cap3, rfl⟩ := O.shape
  go_wp2_with fail
  refine (cut_is O HM.out (l := [97, 13, 10, 10, 98]) (ls := [[97]]) (r := [10, 98]) (by kernel_rfl) (by decide)).mono ?_
  clear O
  rintro e w2 ⟨v4, rfl, O⟩
  obtain ⟨a4, cap4, rfl⟩ := O.shape
  try simp only [List.map_cons, List.map_nil, List.getD_cons_zero, List.getD_cons_succ, List.eraseIdx_cons_zero, List.eraseIdx_cons_succ, List.getElem_cons_zero, List.getElem_cons_succ] at O
  go_wp2_with fail
  refine (same_lit (O.pick 4) [[97, 98]] (by decide) true (by decide)).mono ?_
  clear O
  rintro e w3 ⟨rfl, O⟩
  try simp only [List.map_cons, List.map_nil, List.getD_cons_zero, List.getD_cons_succ, List.eraseIdx_cons_zero, List.eraseIdx_cons_succ, List.getElem_cons_zero, List.getElem_cons_succ] at O
  go_wp2_with fail
  refine (same_lit (O.pick 4) [[99, 100, 10, 13, 101]] (by decide) true (by decide)).mono ?_
  clear O
  rintro e w4 ⟨rfl, O⟩
  try simp only [List.map_cons, List.map_nil, List.getD_cons_zero, List.getD_cons_succ, List.eraseIdx_cons_zero, List.eraseIdx_cons_succ, List.getElem_cons_zero, List.getElem_cons_succ] at O
  go_wp2_with fail
  refine (ldead_own (O.pick 4)).mono ?_
  rintro e w5 ⟨rfl, rfl⟩
  go_wp2_with fail
  refine (lleft_own (O.pick 4)).mono ?_
  rintro e w5 ⟨rfl, rfl⟩
  go_wp2_with fail
  refine (same_lit (O.pick 2) [[97]] (by decide) true (by decide)).mono ?_
  clear O
  rintro e w5 ⟨rfl, O⟩
  go_wp2
  go_ret
  exact ⟨rfl, O.chg⟩
end Go.Proofs.Ytkgfdmfkmcbecaa
