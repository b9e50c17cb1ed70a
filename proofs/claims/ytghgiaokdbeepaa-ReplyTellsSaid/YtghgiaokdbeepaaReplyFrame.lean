/- a reply that came in, opened. -/
import Derived.Test.YtghgiaokdbeepaaFrame
import Derived.Test.YtghgiaokdbeepaaReplyM
import Derived.Lib.SmallJoins
namespace Go.Proofs.Ytghgiaokdbeepaa
set_option linter.all false
open Go.ChangeShapes Go.WideShapes Go.ChangeAt Go.RowKit Go.Joins

theorem cellsReply : Try.prog.cellsOf 34 = 3 := by kernel_rfl
theorem open_reply_Reply_arg {H : Type} {enc : TypeId × Value → H} {W : World} {base : Nat} {v : Value} {d : DataW H} {p : List MemPlace} (hv : Value.okWide Try.prog W .any base 34 v)
    (h : DataW.Trod enc Try.prog W 0 (fun _ => true) true 34 v d p) : ∃ (x : Rep) (G : List Nat), RepIn W v x G := by
  obtain ⟨c0, c1, c2, y0, y1, y2, m, rfl, _, _, hy0, hy1, hy2⟩ := open_agg3 Try.underlying34 (by kernel_rfl) cellsReply hv h
  obtain ⟨n, e0, _, _⟩ := DataW.trod_int Try.underlying3 hy0
  obtain ⟨s, e1, _, _⟩ := DataW.trod_string Try.underlying9 hy1
  obtain ⟨ss, G, h1, h2, h3, h4⟩ := open_strs_trod hy2
  simp at e0 e1
  subst e0 e1
  refine ⟨⟨n, s.data.toList, ss⟩, G, c2, ?_, h1, h2, h3, h4⟩
  cases s; simp
end Go.Proofs.Ytghgiaokdbeepaa
