/- mailroomlaw09.awake; printed by wip/hdgen.py. -/
import Derived.Test.YtnkcanhkdfckmaaDoorHdH
namespace Go.Proofs.YtnkcanhkdfckmaaDoor
set_option linter.all false
open Go.RowKit

theorem are_lit {w0 w : World} {L : List Piece} {m : Int} (O : Own w0 w L) (hm : w0.cell? ⟨0, 0, none⟩ = some (.int .i64 m)) (s : List UInt8) (hs : s.length ≤ 10000000) (l : List (List UInt8)) {xs : List Fd} (hx : fieldsL s = xs) (hl : flatS xs = l) :
    Calls Tryd.prog 10 #[.string ⟨s.toArray⟩, .slice (some ⟨w.heap.size, 0, none⟩) l.length l.length] (w.alloc (.cells (l.map str).toArray 9)) fun e w' => e = .returned (.bool true) ∧ Own w0 w' L := by
  refine (are_yes (O.newBox (l.map str).toArray 9) hm s hs _ l hx hl (fun w' h => ⟨_, strsR_at l h.obj rfl _ rfl⟩)).mono ?_
  rintro e w' ⟨h, O'⟩
  exact ⟨h, O'.drop⟩
theorem are_nil {w0 w : World} {L : List Piece} {m : Int} (O : Own w0 w L) (hm : w0.cell? ⟨0, 0, none⟩ = some (.int .i64 m)) (s : List UInt8) (hs : s.length ≤ 10000000) {xs : List Fd} (hx : fieldsL s = xs) (hl : flatS xs = []) :
    Calls Tryd.prog 10 #[.string ⟨s.toArray⟩, .slice none 0 0] w fun e w' => e = .returned (.bool true) ∧ Own w0 w' L :=
  are_yes O hm s hs _ [] hx hl (fun w' _ => ⟨[], strsR_nil _ _⟩)
set_option maxRecDepth 100000 in
set_option maxHeartbeats 8000000 in
theorem awake9_own {w0 w : World} {L : List Piece} {m : Int} (O : Own w0 w L) (hm : w0.cell? ⟨0, 0, none⟩ = some (.int .i64 m)) :
    Calls Tryd.prog 9 #[] w fun e w' => e = .returned (.bool true) ∧ Own w0 w' L := by
  go_enter Tryd.func9, Tryd.ntmps9
  go_wp2_with fail
  refine (show_own O ([65], [98]) (by decide) (by decide) (v := .tuple #[.string ⟨#[65, 58, 32, 98]⟩, .int .i64 0]) (by kernel_rfl)).mono ?_
  clear O
  rintro e w1 ⟨rfl, O⟩
  go_wp2_with fail
  refine (show_own O ([65, 32], [98]) (by decide) (by decide) (v := .tuple #[.string ⟨#[]⟩, .int .i64 4]) (by kernel_rfl)).mono ?_
  clear O
  rintro e w1 ⟨rfl, O⟩
  go_wp2_with fail
  refine (are_lit O hm [65, 58, 32, 98, 13, 10, 32, 99, 13, 10, 82, 101, 99, 101, 105, 118, 101, 100, 58, 120, 13, 10, 13, 10, 68, 58, 32, 101, 13, 10] (by decide) [[65], [98, 32, 99], [82, 101, 99, 101, 105, 118, 101, 100], [120]] (xs := [([65], [98, 32, 99]), ([82, 101, 99, 101, 105, 118, 101, 100], [120])]) (by kernel_rfl) rfl).mono ?_
  clear O
  rintro e w1 ⟨rfl, O⟩
  go_wp2_with fail
  refine (hops_own O hm [65, 58, 32, 98, 13, 10, 32, 99, 13, 10, 82, 101, 99, 101, 105, 118, 101, 100, 58, 120, 13, 10, 13, 10, 68, 58, 32, 101, 13, 10] (by decide) (r := 1) (by kernel_rfl)).mono ?_
  clear O
  rintro e w1 ⟨rfl, O⟩
  go_wp2_with fail
  refine (body_own O hm [65, 58, 32, 98, 13, 10, 32, 99, 13, 10, 82, 101, 99, 101, 105, 118, 101, 100, 58, 120, 13, 10, 13, 10, 68, 58, 32, 101, 13, 10] (by decide) (r := [68, 58, 32, 101, 13, 10]) (by kernel_rfl)).mono ?_
  clear O
  rintro e w1 ⟨rfl, O⟩
  go_wp2_with fail
  refine (plain_own O hm [116, 108, 115, 45, 114, 101, 113, 117, 105, 114, 101, 100, 58, 32, 78, 79, 13, 10] (by decide) (r := true) (by kernel_rfl)).mono ?_
  clear O
  rintro e w1 ⟨rfl, O⟩
  go_wp2_with fail
  refine (plain_own O hm [84, 76, 83, 45, 82, 101, 113, 117, 105, 114, 101, 100, 58, 32, 78, 111, 13, 10, 84, 76, 83, 45, 82, 101, 113, 117, 105, 114, 101, 100, 58, 32, 78, 111, 13, 10] (by decide) (r := false) (by kernel_rfl)).mono ?_
  clear O
  rintro e w1 ⟨rfl, O⟩
  go_wp2_with fail
  refine (are_lit O hm [65, 58, 32, 98, 13, 10, 110, 111, 32, 102, 105, 101, 108, 100, 13, 10, 67, 58, 32, 100, 13, 10] (by decide) [[65], [98]] (xs := [([65], [98])]) (by kernel_rfl) rfl).mono ?_
  clear O
  rintro e w1 ⟨rfl, O⟩
  go_wp2_with fail
  refine (are_nil O hm [32, 120, 13, 10, 65, 58, 32, 98, 13, 10] (by decide) (xs := []) (by kernel_rfl) rfl).mono ?_
  clear O
  rintro e w1 ⟨rfl, O⟩
  go_wp2
  go_ret
  exact ⟨rfl, O⟩
end Go.Proofs.YtnkcanhkdfckmaaDoor
