/- strings that came in, opened; a nil slice is the nil slice. -/
import Derived.Test.YtdfkjjopekceoaaDoorFrame
import Derived.Test.YtdfkjjopekceoaaDoorHold
namespace Go.Proofs.YtdfkjjopekceoaaDoor
set_option linter.all false
open Go.ChangeShapes Go.WideShapes Go.ChangeAt Go.RowKit

theorem open_strs_kind {H : Type} {enc : TypeId × Value → H} {W : World} {base : Nat} {v : Value} {d : DataW H} {p : List MemPlace} (hv : Value.okWide Tryd.prog W .any base 22 v)
    (h : DataW.Trod enc Tryd.prog W 0 (fun _ => true) true 22 v d p) :
    ∃ (ss : List (List UInt8)) (G : List Nat), StrsR W v ss G ∧ (∀ s ∈ ss, s.length ≤ maxLen) ∧ (∀ k ∈ G, k < W.heap.size) ∧ ss.length ≤ maxLen ∧ Kind v := by
  obtain ⟨ss, G, h1, h2, h3, h4⟩ := open_strs_arg hv h
  refine ⟨ss, G, h1, h2, h3, h4, ?_⟩
  obtain ⟨a, len, cap, rfl⟩ := okWide_slice Tryd.underlying22 hv
  obtain ⟨fuel, hf⟩ := h
  have hf : DataW.trod enc Tryd.prog W 0 (fun _ => true) true fuel 22 [.slice a len cap] = some (d, p) := by simpa [Value.cells] using hf
  rcases open_strings Tryd.underlying22 Tryd.underlying9 (by kernel_rfl) hf with ⟨hcs, _⟩ | ⟨x, l, c, ss, hcs, _⟩
  · simp at hcs
    obtain ⟨rfl, rfl, rfl⟩ := hcs
    exact .inl rfl
  · simp at hcs
    obtain ⟨rfl, rfl, rfl⟩ := hcs
    exact .inr ⟨_, _, _, rfl⟩
end Go.Proofs.YtdfkjjopekceoaaDoor
