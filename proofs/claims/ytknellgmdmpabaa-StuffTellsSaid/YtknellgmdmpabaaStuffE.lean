/- mailroomlaw08.works. -/
import Derived.Test.YtknellgmdmpabaaStuffD
namespace Go.Proofs.Ytknellgmdmpabaa
set_option linter.all false
open Go.RowKit Go.Shelf

theorem stuff_is {w0 w : World} {L : List Piece} (O : Own w0 w L) {m : Int} (hm : w0.cell? ⟨0, 0, none⟩ = some (.int .i64 m)) {l r : List UInt8} {er : Int} (hr : stuffV l = (r, er)) (hl : l.length ≤ 10000000) :
    Calls Try.prog 9 #[.string ⟨l.toArray⟩] w fun e w' => e = .returned (.tuple #[.string ⟨r.toArray⟩, .int .i64 er]) ∧ Own w0 w' L := by
  have h := stuff_any O m hm l hl
  rw [hr] at h
  exact h
theorem unstuff_is {w0 w : World} {L : List Piece} (O : Own w0 w L) {m : Int} (hm : w0.cell? ⟨0, 0, none⟩ = some (.int .i64 m)) {l r q : List UInt8} {er : Int} (hr : unsV l = (r, q, er)) (hl : l.length ≤ 10000000) :
    Calls Try.prog 10 #[.string ⟨l.toArray⟩] w fun e w' => e = .returned (.tuple #[.string ⟨r.toArray⟩, .string ⟨q.toArray⟩, .int .i64 er]) ∧ Own w0 w' L := by
  have h := unstuff_any O m hm l hl
  rw [hr] at h
  exact h
theorem dots_is {w0 w : World} {L : List Piece} (O : Own w0 w L) {m : Int} (hm : w0.cell? ⟨0, 0, none⟩ = some (.int .i64 m)) {l : List UInt8} {n : Nat} (hr : dotsN (linesB l) = n) (hl : l.length ≤ 10000000) :
    Calls Try.prog 11 #[.string ⟨l.toArray⟩] w fun e w' => e = .returned (.int .i64 (n : Int)) ∧ Own w0 w' L := by
  have h := dots_any O m hm l (by omega)
  rw [hr] at h
  exact h
theorem whole_is {w0 w : World} {L : List Piece} (O : Own w0 w L) {m : Int} (hm : w0.cell? ⟨0, 0, none⟩ = some (.int .i64 m)) {l : List UInt8} {b : Bool} (hr : wholeB (linesB l) = b) (hl : l.length ≤ 10000000) :
    Calls Try.prog 12 #[.string ⟨l.toArray⟩] w fun e w' => e = .returned (.bool b) ∧ Own w0 w' L := by
  have h := whole8_any O m hm l (by omega)
  rw [hr] at h
  exact h

set_option maxRecDepth 100000 in
set_option maxHeartbeats 2000000 in
theorem works_any (w : World) (m : Int) (hm : w.cell? ⟨0, 0, none⟩ = some (.int .i64 m)) : Calls Try.prog 8 #[] w fun e w' => e = .returned (.bool true) ∧ Chg [] w w' := by
  have HM := Lib.hid hm; clear hm
  have O := Own.start w
  go_enter Try.func8, Try.ntmps8
  go_wp2_with fail
  refine (stuff_is O HM.out (l := []) (r := [46, 13, 10]) (er := 0) (by kernel_rfl) (by decide)).mono ?_
  clear O
  rintro e w1 ⟨rfl, O⟩
  go_wp2_with fail
  refine (stuff_is O HM.out (l := [46, 97, 13, 10, 98, 13, 10]) (r := [46, 46, 97, 13, 10, 98, 13, 10, 46, 13, 10]) (er := 0) (by kernel_rfl) (by decide)).mono ?_
  clear O
  rintro e w1 ⟨rfl, O⟩
  go_wp2_with fail
  refine (unstuff_is O HM.out (l := [46, 46, 97, 13, 10, 98, 13, 10, 46, 13, 10, 120]) (r := [46, 97, 13, 10, 98, 13, 10]) (q := [120]) (er := 0) (by kernel_rfl) (by decide)).mono ?_
  clear O
  rintro e w1 ⟨rfl, O⟩
  go_wp2_with fail
  refine (unstuff_is O HM.out (l := [46, 97, 13, 10, 46, 13, 10]) (r := []) (q := []) (er := 4) (by kernel_rfl) (by decide)).mono ?_
  clear O
  rintro e w1 ⟨rfl, O⟩
  go_wp2_with fail
  refine (unstuff_is O HM.out (l := [97, 13, 10]) (r := []) (q := []) (er := 8) (by kernel_rfl) (by decide)).mono ?_
  clear O
  rintro e w1 ⟨rfl, O⟩
  go_wp2
  go_ret
  exact ⟨rfl, O.chg⟩
end Go.Proofs.Ytknellgmdmpabaa
