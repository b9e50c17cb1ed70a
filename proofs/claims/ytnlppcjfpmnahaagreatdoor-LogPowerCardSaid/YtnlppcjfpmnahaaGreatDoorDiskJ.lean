/- disk: Boot over what fits; printed by wip/lgsplit.py. -/
import Derived.Test.YtnlppcjfpmnahaaGreatDoorDiskG
namespace Go.Proofs.YtnlppcjfpmnahaaGreatDoor
set_option linter.all false
open Go.RowKit Go.Maps

section
variable {w0 w : World} {L : List Piece} {p : Value} {m : Dk} {c : Nat}
theorem boot_fit (O : Own w0 w (dk p m :: L)) (h : m.Fit c) (hc : c ≤ 9000) (ak : Option Addr) (nk ck : Nat) (xs : List Int)
    (hs : ∀ w' m', Own w0 w' (dk p m' :: L) → ∃ G, SlR w' (.slice ak nk ck) (xs.map (Value.int .i64)) G) (hx : xs.length ≤ maxLen) {m' : Dk} {er : Int} (hr : m.boot xs = (m', er)) :
    Calls Tryz.prog 20 #[p, .slice ak nk ck] w fun e w' => e = .returned (.int .i64 er) ∧ Own w0 w' (dk p m' :: L) := by
  have := boot_own O (h.small hc) (by have := h.cn; omega) h.ok ak nk ck xs hs hx
  rw [hr] at this
  exact this
end
end Go.Proofs.YtnlppcjfpmnahaaGreatDoor
