/- head: told(head.Fields(..)), Same of two that were made last. -/
import Derived.Test.YtnkcanhkdfckmaaDoorHdY
namespace Go.Proofs.YtnkcanhkdfckmaaDoor
set_option linter.all false
open Go.RowKit Go.Shelf

section
variable {w0 w : World} {L : List Piece} {m : Int}
theorem fieldsN_own (O : Own w0 w L) (hm : w0.cell? ⟨0, 0, none⟩ = some (.int .i64 m)) (s : List UInt8) (hs : s.length ≤ 10000000) {xs : List Fd} (hx : fieldsL s = xs) {N : Nat} (hN : N = xs.length) :
    Calls Tryd.prog 16 #[.string ⟨s.toArray⟩] w fun e w' => ∃ a cap, e = .returned (.slice a N cap) ∧ Own w0 w' (rowv 29 2 (.slice a N cap) N (flatF xs) :: L) := by
  subst hx hN
  exact fieldsC_own O hm s hs
theorem toldTop_own {a : Option Addr} {N cap : Nat} {xs : List Fd} (O : Own w0 w (rowv 29 2 (.slice a N cap) N (flatF xs) :: L)) (hN : N = xs.length) (hl : N ≤ 10000000) :
    Calls Tryd.prog 19 #[.slice a N cap] w fun e w' => ∃ a cap, e = .returned (.slice a N cap) ∧ Own w0 w' (rowv 45 2 (.slice a N cap) N (flatF xs) :: L) := by
  subst hN
  refine (told_own O hl (fun w' h => h.fdR)).mono ?_
  rintro e w' ⟨a', c', rfl, O'⟩
  exact ⟨a', c', rfl, O'.selK 2 [0]⟩
theorem sameTop_own {aa ab : Option Addr} {N M ca cb : Nat} {xs ys : List Fd} (O : Own w0 w (rowv 45 2 (.slice ab M cb) M (flatF ys) :: rowv 45 2 (.slice aa N ca) N (flatF xs) :: L)) (hN : N = xs.length) (hM : M = ys.length) (hl : N ≤ 10000000) {b : Bool} (hr : decide (xs = ys) = b) :
    Calls Tryd.prog 18 #[.slice aa N ca, .slice ab M cb] w fun e w' => e = .returned (.bool b) ∧ Own w0 w' L := by
  refine (rSame_any w (O.pick 1).fdR O.fdR hN hM (by omega) hr).mono ?_
  rintro e w' ⟨rfl, j, rfl⟩
  exact ⟨rfl, (O.drewN j).drop.drop⟩
/-- the second one stays -/
theorem sameLast_own {aa ab : Option Addr} {N M ca cb : Nat} {xs ys : List Fd} (O : Own w0 w (rowv 45 2 (.slice aa N ca) N (flatF xs) :: rowv 45 2 (.slice ab M cb) M (flatF ys) :: L)) (hN : N = xs.length) (hM : M = ys.length) (hl : N ≤ 10000000) {b : Bool} (hr : decide (xs = ys) = b) :
    Calls Tryd.prog 18 #[.slice aa N ca, .slice ab M cb] w fun e w' => e = .returned (.bool b) ∧ Own w0 w' (rowv 45 2 (.slice ab M cb) M (flatF ys) :: L) := by
  refine (rSame_any w O.fdR (O.pick 1).fdR hN hM (by omega) hr).mono ?_
  rintro e w' ⟨rfl, j, rfl⟩
  exact ⟨rfl, (O.drewN j).drop⟩
end
end Go.Proofs.YtnkcanhkdfckmaaDoor
