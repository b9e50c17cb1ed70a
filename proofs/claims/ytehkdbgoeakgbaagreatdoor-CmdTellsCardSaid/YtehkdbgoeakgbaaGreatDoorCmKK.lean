/- cmd: the condition on the listed variables: what it gives the walks; a world that meets it. -/
import Derived.Test.YtehkdbgoeakgbaaGreatDoorCmBd
import Derived.Test.YtehkdbgoeakgbaaGreatDoorCmK
import Derived.Test.YtehkdbgoeakgbaaGreatDoorTie
import Derived.ProofKit
import Derived.LaidMore
import Derived.LaidSub
import Derived.Lay
import Derived.Stop.Joined
import Derived.Lib.LaidTab
import Derived.MakeChecks
namespace Go.Proofs.YtehkdbgoeakgbaaGreatDoor
set_option linter.all false
open Go.ChangeShapes Go.WideShapes Go.ChangeAt Go.RowKit

abbrev lay4 : List (String × DataW Unit) := [("math/bits.deBruijn32tab", Rows.laid_math_bits_deBruijn32tab), ("math/bits.deBruijn64tab", Rows.laid_math_bits_deBruijn64tab), ("internal/strconv.uint64pow10", Rows.laid_internal_strconv_uint64pow10), ("mailroom/addr.kinds", Rows.laid_mailroom_addr_kinds)]
structure KT (w : World) : Prop where
  kinds : Kinds w
  tab : Tab w
theorem trod_two {H : Type} {enc : TypeId × Value → H} {P : Program} {w : World} {base : Nat} {spare : Nat → Bool} {held : Bool} {t e : TypeId} {fuel : Nat} {cs : List Value} {x : DataW H × List MemPlace} (ht : P.underlying t = some (.array 2 e)) (hce : P.cellsOf e = 1) (hct : P.cellsOf t = 2)
    (h : DataW.trod enc P w base spare held fuel t cs = some x) :
    ∃ c0 c1 y0 y1 n, cs = [c0, c1] ∧ x = (.agg [y0.1, y1.1], y0.2 ++ y1.2) ∧ DataW.trod enc P w base spare held n e [c0] = some y0 ∧ DataW.trod enc P w base spare held n e [c1] = some y1 := by
  cases fuel with
  | zero => simp [DataW.trod] at h
  | succ n =>
    unfold DataW.trod at h
    rw [ht] at h
    have r2 : List.range 2 = [0, 1] := rfl
    simp [r2, hce] at h
    obtain ⟨hl, h⟩ := h
    obtain ⟨c0, c1, rfl⟩ : ∃ c0 c1, cs = [c0, c1] := by
      have hl2 : cs.length = 2 := by rw [← hct]; simpa using hl
      match cs, hl2 with
      | [c0, c1], _ => exact ⟨c0, c1, rfl⟩
    simp at h
    cases h0 : DataW.trod enc P w base spare held n e [c0] with
    | none => simp [h0] at h
    | some y0 =>
      cases h1 : DataW.trod enc P w base spare held n e [c1] with
      | none => simp [h0, h1] at h
      | some y1 =>
        simp [h0, h1] at h
        exact ⟨c0, c1, y0, y1, n, rfl, h.symm, h0, h1⟩
theorem gKinds : Tryz.prog.globalNamed "mailroom/addr.kinds" = some 0 := by kernel_rfl
theorem tKinds : (Tryz.prog.globals[0]?).map (·.type) = some 99 := by kernel_rfl
theorem cellsK : Tryz.prog.cellsOf 62 = 1 := by kernel_rfl
theorem cellsA : Tryz.prog.cellsOf 99 = 2 := by kernel_rfl
theorem gPow : Tryz.prog.globalNamed "internal/strconv.uint64pow10" = some 2 := by kernel_rfl
theorem tPow : (Tryz.prog.globals[2]?).map (·.type) = some 117 := by kernel_rfl
theorem tab_of_laid {W : World} (h : laidMetH Tryz.prog lay4 W) : Tab W := by
  have h1 := h.filter (fun x => x.1 == "internal/strconv.uint64pow10")
  have e : (lay4.filter fun x => x.1 == "internal/strconv.uint64pow10") = [("internal/strconv.uint64pow10", Lib.tabData .u64 Lib.pow10Tab)] := by kernel_rfl
  rw [e, MakeChecks.laidMetH_plain _ _ _ (by kernel_rfl)] at h1
  exact Lib.tabIs_of_head gPow tPow Tryz.underlying117 Tryz.underlying108 (by kernel_rfl) (by kernel_rfl) h1
theorem kinds_of_laid {W : World} (h : laidMetH Tryz.prog lay4 W) : KT W := by
  refine ⟨?_, tab_of_laid h⟩
  obtain ⟨g, t, cs, fuel, p, hg, ht, hv, hd⟩ := h.funcs (n := "mailroom/addr.kinds") (List.Mem.tail _ (List.Mem.tail _ (List.Mem.tail _ (List.Mem.head _))))
  obtain rfl := Option.some.inj (gKinds.symm.trans hg)
  obtain rfl := Option.some.inj (tKinds.symm.trans ht)
  obtain ⟨c0, c1, y0, y1, n, hcs, hx, h0, h1⟩ := trod_two Tryz.underlying99 cellsK cellsA hd
  obtain ⟨y0a, y0b⟩ := y0
  obtain ⟨y1a, y1b⟩ := y1
  have hx1 := DataW.agg.inj (Prod.mk.inj hx).1
  have e0 := (List.cons.inj hx1).1
  have e1 := (List.cons.inj (List.cons.inj hx1).2).1
  subst e0 e1
  obtain rfl := func_of_trod (f0 := 122) Tryz.underlying62 (by kernel_rfl) h0
  obtain rfl := func_of_trod (f0 := 123) Tryz.underlying62 (by kernel_rfl) h1
  have hcs2 : cs = #[.func (.func 122) #[] #[], .func (.func 123) #[] #[]] := by apply Array.ext'; exact hcs
  subst hcs2
  exact ⟨by have := World.var?_cell hg hv 0; simpa using this, by have := World.var?_cell hg hv 1; simpa using this⟩
/-- the door's own heap meets the condition -/
theorem door_met (os : Os) (args : Array Value) : laidMetH Tryz.prog lay4 ((World.doorLaid Tryz.prog 600 os).forCall (fun _ _ => 0) ⟨#[], args, []⟩).memory :=
  laidMetH_of_parts3 (fuel := 8) (laidMet_of_run' 8 (by kernel_rfl) (by kernel_rfl)) (by kernel_rfl) (by kernel_rfl)
end Go.Proofs.YtehkdbgoeakgbaaGreatDoor
