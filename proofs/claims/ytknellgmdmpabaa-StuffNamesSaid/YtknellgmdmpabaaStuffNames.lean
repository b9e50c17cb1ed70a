/- StuffNames: the walk. -/
import Derived.Test.YtknellgmdmpabaaStuffE
namespace Go.Proofs.Ytknellgmdmpabaa
set_option linter.all false
open Go.RowKit Go.Shelf

theorem Own.litCell {w0 w : World} {L : List Piece} {b : Nat} {ss : List (List UInt8)} {ty : TypeId} (O : Own w0 w (box b (ss.map str).toArray ty :: L)) (k : Nat) (hk : k < ss.length) : w.cell? ⟨b, k, none⟩ = some (.string ⟨ss[k].toArray⟩) := by
  rw [O.cell k]; simp [hk, str]
def badS : List (List UInt8) := [[97], [13], [10], [97, 13, 10, 98], [13, 10, 46], [97, 10, 13]]
theorem badS_not (k : Nat) (h : k < 6) : stuffV (badS[k]'h) = ([], 4) ∧ (badS[k]'h).length ≤ 1000 := by
  obtain rfl | rfl | rfl | rfl | rfl | rfl : k = 0 ∨ k = 1 ∨ k = 2 ∨ k = 3 ∨ k = 4 ∨ k = 5 := by omega
  all_goals exact ⟨by kernel_rfl, by simp [badS]⟩
structure Ex8 where
  s : List UInt8
  a : List UInt8
  b : List UInt8
  e : Int
def Ex8.cells (x : Ex8) : List Value := [.string ⟨x.s.toArray⟩, .string ⟨x.a.toArray⟩, .string ⟨x.b.toArray⟩, .int .i64 x.e]
def exs8 : List Ex8 := [⟨[46, 13, 10], [], [], 0⟩, ⟨[46, 13, 10, 46, 13, 10], [], [46, 13, 10], 0⟩, ⟨[46, 46, 46, 13, 10, 46, 13, 10], [46, 46, 13, 10], [], 0⟩, ⟨[46, 46, 13, 10, 46, 13, 10], [46, 13, 10], [], 0⟩, ⟨[10, 46, 13, 10, 46, 13, 10], [10, 46, 13, 10], [], 0⟩, ⟨[97, 10, 46, 10, 13, 10, 46, 13, 10, 13], [97, 10, 46, 10, 13, 10], [13], 0⟩,
  ⟨[], [], [], 8⟩, ⟨[46], [], [], 8⟩, ⟨[46, 13], [], [], 8⟩, ⟨[46, 120], [], [], 8⟩, ⟨[46, 10, 13, 10], [], [], 4⟩, ⟨[46, 13, 13, 10, 46, 13, 10], [], [], 4⟩, ⟨[97, 13, 10, 46, 98, 13, 10], [], [], 4⟩]
theorem exs8_ok (k : Nat) (h : k < 13) : unsV (exs8[k]'h).s = ((exs8[k]'h).a, (exs8[k]'h).b, (exs8[k]'h).e) ∧ (exs8[k]'h).s.length ≤ 1000 := by
  obtain rfl | rfl | rfl | rfl | rfl | rfl | rfl | rfl | rfl | rfl | rfl | rfl | rfl : k = 0 ∨ k = 1 ∨ k = 2 ∨ k = 3 ∨ k = 4 ∨ k = 5 ∨ k = 6 ∨ k = 7 ∨ k = 8 ∨ k = 9 ∨ k = 10 ∨ k = 11 ∨ k = 12 := by omega
  all_goals exact ⟨by kernel_rfl, by simp [exs8]⟩
theorem exs8_cell (k : Nat) (h : k < 13) : (exs8.flatMap Ex8.cells).toArray[k * 4]? = some (.string ⟨(exs8[k]'h).s.toArray⟩) ∧ (exs8.flatMap Ex8.cells).toArray[k * 4 + 1]? = some (.string ⟨(exs8[k]'h).a.toArray⟩) ∧
    (exs8.flatMap Ex8.cells).toArray[k * 4 + 2]? = some (.string ⟨(exs8[k]'h).b.toArray⟩) ∧ (exs8.flatMap Ex8.cells).toArray[k * 4 + 3]? = some (.int .i64 (exs8[k]'h).e) := by
  obtain rfl | rfl | rfl | rfl | rfl | rfl | rfl | rfl | rfl | rfl | rfl | rfl | rfl : k = 0 ∨ k = 1 ∨ k = 2 ∨ k = 3 ∨ k = 4 ∨ k = 5 ∨ k = 6 ∨ k = 7 ∨ k = 8 ∨ k = 9 ∨ k = 10 ∨ k = 11 ∨ k = 12 := by omega
  all_goals exact ⟨rfl, rfl, rfl, rfl⟩

set_option maxRecDepth 100000 in
set_option maxHeartbeats 4000000 in
theorem stuffNames_walk (w : World) (m : Int) (hm : w.cell? ⟨0, 0, none⟩ = some (.int .i64 m)) :
    Calls Try.prog 5 #[] w fun e w' => e = .returned (.bool true) ∧ Below w.heap.size w w' := by
  have HM := Lib.hid hm; clear hm
  have O := Own.start w
  go_enter Try.func5, Try.ntmps5
  go_wp2_with fail
  refine (works_any _ m HM.out).mono ?_
  rintro e w1 ⟨rfl, ch⟩
  replace O := O.pure ch; clear ch
  obtain ⟨b1, hb1⟩ : ∃ b, b = w1.heap.size := ⟨_, rfl⟩
  replace O := (O.newBox (badS.map str).toArray 9)
  rw [← hb1] at O
  go_wp2_with fail
  rw [← hb1]
  clear hb1
  go_loopw [14] (fun iv wr => ∃ k : Nat, k ≤ 6 ∧ iv = .int .i64 k ∧ Own w wr [box b1 (badS.map str).toArray 9]) (fun iv _ => 6 - (intOf iv).toNat)
  case atStart => exact ⟨0, by omega, rfl, O⟩
  case round =>
    clear O
    obtain ⟨k, hk, rfl, O⟩ := hrel
    by_cases hlt : k < 6
    · have c := O.litCell k (by simpa [badS] using hlt)
      have hb1 : (k : Int) < 6 := by omega
      have hx := badS_not k hlt
      obtain ⟨x, hxx⟩ : ∃ x, x = badS[k]'hlt := ⟨_, rfl⟩
      rw [← hxx] at hx
      have c' : wr.cell? ⟨b1, k, none⟩ = some (.string ⟨x.toArray⟩) := by rw [hxx]; exact c
      obtain ⟨hx1, hx2⟩ := hx
      have X := Lib.hid hx1
      clear c hx1 hxx
      go_wp2_with fail
      clear c'
      refine (stuff_is O HM.out X.out (by omega)).mono ?_
      clear O
      rintro e w9 ⟨rfl, O⟩
      go_wp2
      go_roundw
      case rel => exact ⟨k + 1, by omega, by go_num, O⟩
      case measure => simp [intOf]; omega
    · have hb1 : ¬ (k : Int) < 6 := by omega
      obtain ⟨b2, hb2⟩ : ∃ b, b = wr.heap.size := ⟨_, rfl⟩
      replace O := (O.newBox (exs8.flatMap Ex8.cells).toArray 31)
      rw [← hb2] at O
      go_wp2_with fail
      rw [← hb2]
      clear hb2
      go_loopw [45] (fun iv wr => ∃ k : Nat, k ≤ 13 ∧ iv = .int .i64 k ∧ Own w wr [box b2 (exs8.flatMap Ex8.cells).toArray 31]) (fun iv _ => 13 - (intOf iv).toNat)
      case atStart => exact ⟨0, by omega, rfl, O.sel [0]⟩
      case round =>
        clear O hlt hb1 hk
        obtain ⟨k, hk, rfl, O⟩ := hrel
        by_cases hlt : k < 13
        · have hb1 : (k : Int) < 13 := by omega
          obtain ⟨e0, e1, e2, e3⟩ := exs8_cell k hlt
          have hx := exs8_ok k hlt
          obtain ⟨x, hxx⟩ : ∃ x, x = exs8[k]'hlt := ⟨_, rfl⟩
          rw [← hxx] at hx e0 e1 e2 e3
          have c0 : wr.cell? ⟨b2, k * 4, none⟩ = some (.string ⟨x.s.toArray⟩) := (O.cell _).trans e0
          have c1 : wr.cell? ⟨b2, k * 4 + 1, none⟩ = some (.string ⟨x.a.toArray⟩) := (O.cell _).trans e1
          have c2 : wr.cell? ⟨b2, k * 4 + 2, none⟩ = some (.string ⟨x.b.toArray⟩) := (O.cell _).trans e2
          have c3 : wr.cell? ⟨b2, k * 4 + 3, none⟩ = some (.int .i64 x.e) := (O.cell _).trans e3
          obtain ⟨hx1, hx2⟩ := hx
          have X := Lib.hid hx1
          clear hx1 hxx e0 e1 e2 e3
          go_wp2_with fail
          have O2 := O.newBox #[.string ⟨x.s.toArray⟩, .string ⟨x.a.toArray⟩, .string ⟨x.b.toArray⟩, .int .i64 x.e] 31
          obtain ⟨d, hd⟩ : ∃ d, d = wr.heap.size := ⟨_, rfl⟩
          rw [← hd] at O2 ⊢
          clear hd O c0 c1 c2 c3
          refine (unstuff_is O2 HM.out X.out (by omega)).mono ?_
          clear O2
          rintro e w9 ⟨rfl, O⟩
          have d1 : w9.cell? ⟨d, 1, none⟩ = some (.string ⟨x.a.toArray⟩) := O.cell 1
          have d2 : w9.cell? ⟨d, 2, none⟩ = some (.string ⟨x.b.toArray⟩) := O.cell 2
          have d3 : w9.cell? ⟨d, 3, none⟩ = some (.int .i64 x.e) := O.cell 3
          have i1 : (x.a != x.a) = false := by simp
          have i2 : (x.b != x.b) = false := by simp
          have i3 : (x.e != x.e) = false := by simp
          go_wp2
          go_roundw
          case rel => exact ⟨k + 1, by omega, by go_num, O.drop⟩
          case measure => simp [intOf]; omega
        · have hb1 : ¬ (k : Int) < 13 := by omega
          clear hlt
          go_wp2_with fail
          refine (dots_is O HM.out (l := []) (n := 0) (by kernel_rfl) (by decide)).mono ?_
          clear O
          rintro e w9 ⟨rfl, O⟩
          go_wp2_with fail
          refine (dots_is O HM.out (l := [46]) (n := 1) (by kernel_rfl) (by decide)).mono ?_
          clear O
          rintro e w9 ⟨rfl, O⟩
          go_wp2_with fail
          refine (dots_is O HM.out (l := [46, 13, 10, 97, 13, 10, 46, 46, 13, 10, 46, 120]) (n := 3) (by kernel_rfl) (by decide)).mono ?_
          clear O
          rintro e w9 ⟨rfl, O⟩
          go_wp2_with fail
          refine (dots_is O HM.out (l := [10, 46]) (n := 0) (by kernel_rfl) (by decide)).mono ?_
          clear O
          rintro e w9 ⟨rfl, O⟩
          go_wp2_with fail
          refine (whole_is O HM.out (l := [97, 13, 10, 46, 13, 10, 98]) (b := true) (by kernel_rfl) (by decide)).mono ?_
          clear O
          rintro e w9 ⟨rfl, O⟩
          go_wp2_with fail
          refine (whole_is O HM.out (l := []) (b := false) (by kernel_rfl) (by decide)).mono ?_
          clear O
          rintro e w9 ⟨rfl, O⟩
          go_wp2_with fail
          refine (whole_is O HM.out (l := [97, 46, 13, 10]) (b := false) (by kernel_rfl) (by decide)).mono ?_
          clear O
          rintro e w9 ⟨rfl, O⟩
          go_wp2_with fail
          refine (whole_is O HM.out (l := [46, 10]) (b := false) (by kernel_rfl) (by decide)).mono ?_
          clear O
          rintro e w9 ⟨rfl, O⟩
          go_wp2_with fail
          refine (whole_is O HM.out (l := [10, 46, 13, 10]) (b := false) (by kernel_rfl) (by decide)).mono ?_
          clear O
          rintro e w9 ⟨rfl, O⟩
          go_wp2_with fail
          refine (whole_is O HM.out (l := [46, 46, 13, 10]) (b := false) (by kernel_rfl) (by decide)).mono ?_
          clear O
          rintro e w9 ⟨rfl, O⟩
          go_wp2
          go_ret
          exact ⟨rfl, O.below⟩
end Go.Proofs.Ytknellgmdmpabaa
