/- a reply that came in, and what kind its slice is of. -/
import Derived.Test.YtghgiaokdbeepaaReplyFrame
namespace Go.Proofs.Ytghgiaokdbeepaa
set_option linter.all false
open Go.ChangeShapes Go.WideShapes Go.ChangeAt Go.RowKit Go.Joins
open Go.ChangeShapes

theorem kind_of_trod {H : Type} {enc : TypeId × Value → H} {W : World} {v : Value} {y : DataW H × List MemPlace} {fuel : Nat}
    (hf : DataW.trod enc Try.prog W 0 (fun _ => true) true fuel 32 [v] = some y) : v = .slice none 0 0 ∨ ∃ ad m c, v = .slice (some ad) m c := by
  rcases open_strings Try.underlying32 Try.underlying9 (by kernel_rfl) hf with ⟨hcs, _⟩ | ⟨x, l, c, ss, hcs, _⟩
  · simp at hcs; exact .inl hcs
  · simp at hcs; exact .inr ⟨_, _, _, hcs⟩
theorem open_reply_Reply_kind {H : Type} {enc : TypeId × Value → H} {W : World} {base : Nat} {v : Value} {d : DataW H} {p : List MemPlace} (hv : Value.okWide Try.prog W .any base 34 v)
    (h : DataW.Trod enc Try.prog W 0 (fun _ => true) true 34 v d p) : ∀ a b s, v = .agg #[a, b, s] → (s = .slice none 0 0 ∨ ∃ ad m c, s = .slice (some ad) m c) := by
  obtain ⟨c0, c1, c2, y0, y1, y2, m, rfl, _, _, hy0, hy1, hy2⟩ := open_agg3 Try.underlying34 (by kernel_rfl) cellsReply hv h
  intro a b s e
  simp only [Value.agg.injEq, Array.mk.injEq, List.cons.injEq, and_true] at e
  obtain ⟨_, _, rfl⟩ := e
  exact kind_of_trod hy2
end Go.Proofs.Ytghgiaokdbeepaa
