/- strings that came in, opened: with the capacity. -/
import Derived.Test.YtnlppcjfpmnahaaGreatDoorFrame
import Derived.Test.YtnlppcjfpmnahaaGreatDoorHold
namespace Go.Proofs.YtnlppcjfpmnahaaGreatDoor
set_option linter.all false
open Go.ChangeShapes Go.WideShapes Go.ChangeAt Go.RowKit

set_option maxRecDepth 100000 in
theorem open_strs_cap {H : Type} {enc : TypeId × Value → H} {W : World} {base : Nat} {v : Value} {d : DataW H} {p : List MemPlace} (hv : Value.okWide Tryz.prog W .any base 23 v)
    (h : DataW.Trod enc Tryz.prog W 0 (fun _ => true) true 23 v d p) :
    ∃ (ss : List (List UInt8)) (G : List Nat), StrsR W v ss G ∧ (∀ s ∈ ss, s.length ≤ maxLen) ∧ (∀ k ∈ G, k < W.heap.size) ∧ ss.length ≤ maxLen ∧ ∃ a cap, v = .slice a ss.length cap ∧ ss.length ≤ cap := by
  obtain ⟨ss, G, h1, h2, h3, h4⟩ := open_strs_arg hv h
  refine ⟨ss, G, h1, h2, h3, h4, ?_⟩
  obtain ⟨a0, c0, e0, -⟩ := h1
  obtain ⟨a, len, cap, rfl⟩ := okWide_slice Tryz.underlying23 hv
  simp only [Value.slice.injEq] at e0
  obtain ⟨rfl, rfl, rfl⟩ := e0
  refine ⟨_, _, rfl, ?_⟩
  obtain ⟨fuel, hf⟩ := h
  have hf : DataW.trod enc Tryz.prog W 0 (fun _ => true) true fuel 23 [.slice a ss.length cap] = some (d, p) := by simpa [Value.cells] using hf
  rcases open_strings Tryz.underlying23 Tryz.underlying9 (by kernel_rfl) hf with ⟨hcs, _⟩ | ⟨x, l, c, ss', hcs, _, hl, hm, _⟩
  · simp only [List.cons.injEq, Value.slice.injEq, and_true] at hcs
    obtain ⟨-, e1, e2⟩ := hcs
    omega
  · simp only [List.cons.injEq, Value.slice.injEq, and_true] at hcs
    obtain ⟨-, e1, e2⟩ := hcs
    omega
end Go.Proofs.YtnlppcjfpmnahaaGreatDoor
