/- a caps.Caps, a cmd.Cmd that came in, opened. -/
import Derived.Test.YtehkdbgoeakgbaaDoorCmBa
import Derived.Test.YtehkdbgoeakgbaaDoorCmG
import Derived.Test.YtehkdbgoeakgbaaDoorCmL
import Derived.Deep.Slices
namespace Go.Proofs.YtehkdbgoeakgbaaDoor
set_option linter.all false
open Go.ChangeShapes Go.WideShapes Go.ChangeAt Go.RowKit

set_option maxRecDepth 100000 in
theorem open_caps_Caps_arg {H : Type} {enc : TypeId × Value → H} {W : World} {base : Nat} {v : Value} {d : DataW H} {p : List MemPlace} (hv : Value.okWide Tryd.prog W .any base 23 v)
    (h : DataW.Trod enc Tryd.prog W 0 (fun _ => true) true 23 v d p) : ∃ (b0 b1 b2 b3 b4 b5 : Bool) (m : Int), v = capsV b0 b1 b2 b3 b4 b5 m := by
  obtain ⟨cs, rfl, hsz⟩ := okWide_struct Tryd.underlying23 hv
  obtain ⟨fuel, hf⟩ := h
  have hf : DataW.trod enc Tryd.prog W 0 (fun _ => true) true fuel 23 cs.toList = some (d, p) := by simpa [Value.cells] using hf
  obtain ⟨xs, k, hk, hxy, hcl, hxl, hf⟩ := DataW.trod_struct Tryd.underlying23 hf
  have g0 := hf 0 _ rfl
  have g1 := hf 1 _ rfl
  have g2 := hf 2 _ rfl
  have g3 := hf 3 _ rfl
  have g4 := hf 4 _ rfl
  have g5 := hf 5 _ rfl
  have g6 := hf 6 _ rfl
  rw [show Tryd.prog.cellsOf 23 = 7 from by kernel_rfl] at hcl
  obtain ⟨cl, rfl⟩ : ∃ l : List Value, cs = l.toArray := ⟨cs.toList, by simp⟩
  simp only [List.toList_toArray] at hcl g0 g1 g2 g3 g4 g5 g6
  match xs, hxl, cl, hcl with
  | [y0, y1, y2, y3, y4, y5, y6], _, [c0, c1, c2, c3, c4, c5, c6], _ =>
  have ci : Tryd.prog.cellsOf 4 = 1 := by kernel_rfl
  have cn : Tryd.prog.cellsOf 3 = 1 := by kernel_rfl
  simp [ci, cn] at g0 g1 g2 g3 g4 g5 g6
  obtain ⟨b0, e0, _⟩ := DataW.trod_bool Tryd.underlying4 g0
  obtain ⟨b1, e1, _⟩ := DataW.trod_bool Tryd.underlying4 g1
  obtain ⟨b2, e2, _⟩ := DataW.trod_bool Tryd.underlying4 g2
  obtain ⟨b3, e3, _⟩ := DataW.trod_bool Tryd.underlying4 g3
  obtain ⟨b4, e4, _⟩ := DataW.trod_bool Tryd.underlying4 g4
  obtain ⟨b5, e5, _⟩ := DataW.trod_bool Tryd.underlying4 g5
  obtain ⟨m, e6, _⟩ := DataW.trod_int Tryd.underlying3 g6
  simp only [List.cons.injEq, and_true] at e0 e1 e2 e3 e4 e5 e6
  subst e0 e1 e2 e3 e4 e5 e6
  exact ⟨b0, b1, b2, b3, b4, b5, m, rfl⟩
end Go.Proofs.YtehkdbgoeakgbaaDoor
