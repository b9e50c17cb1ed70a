/- Inside the wide fence, a region that draws: calls, and operations that the guards leave out. -/
import Derived.Test.YtnkcanhkdfckmaaDoorHeldIn
namespace Go.Proofs.YtnkcanhkdfckmaaDoor
set_option linter.all false
open Go

section
variable {n : Nat} {P : Program} {ops : Array Oper} {Q : Exit → Act → World → Prop} {md : Region.Mode} {S : World → Prop}
/-- an operation that the guards leave out; no other may come up -/
theorem AnyS.skip {i : Nat} {o : Oper} {f : Nat} {l : Array Bool} {a : Act} {w : World} (hr : Region.ready md ops l = [i]) (hi : ops[i]? = some o) (hw : Region.wanted o (yielded ops a.tmps) = false) (hS : S w)
    (h : AnyS n P md ops Q S f (l.setIfInBounds i true) (a.put o.dst undef) w) : AnyS n P md ops Q S (f + 1) l a w := by
  refine AnyS.one hr ?_
  unfold wpOpIn
  rw [hi]
  simp only [hw, Bool.false_eq_true, if_false]
  exact ⟨fun _ _ => trivial, hS, h⟩
/-- a call whose contract is known; no other operation may come up -/
theorem AnyS.call {i : Nat} {o : Oper} {f : Nat} {l : Array Bool} {a : Act} {w : World} {F : FuncId} {args : Array Value} {v : Value} {T : World → Prop} (hr : Region.ready md ops l = [i]) (hi : ops[i]? = some o) (hw : Region.wanted o (yielded ops a.tmps) = true)
    (hrun : (execOp a.eval o).run P w = .ok (.enter F args) w) (hc : Calls P F args w fun e w' => e = .returned v ∧ T w')
    (k : ∀ w', T w' → S w' ∧ AnyS n P md ops Q S f (l.setIfInBounds i true) (a.put o.dst v) w') : AnyS n P md ops Q S (f + 1) l a w := by
  refine AnyS.one hr ?_
  unfold wpOpIn
  rw [hi]
  simp only [hw, if_true, Oper.wpIn, show Fence.wide.round = none from rfl, Oper.semAt_none, hrun, Oper.uponIn]
  refine ⟨fun _ _ => trivial, (fun h => by cases h), ((callsIn_wide (n := n - 1)).2 hc).mono ?_⟩
  rintro e w' ⟨rfl, hT⟩
  exact k w' hT
theorem AnyS.off {i : Nat} {o : Oper} {f : Nat} {l : Array Bool} {a : Act} {w : World} (hi : ops[i]? = some o) (hs : Region.noSelect ops = true) (hf : Region.free md ops l i = true) (hr : (Region.ready md ops l).contains i = true)
    (hQ : ∀ c b u, Q (.panic c) (b.put o.dst undef) u → Q (.panic c) b u) (hw : Region.wanted o (yielded ops a.tmps) = false) (hm : ∀ w, o.about P w a.eval = none) (hS : S w) (h : AnyS n P md ops Q S f (l.setIfInBounds i true) (a.put o.dst undef) w) : AnyS n P md ops Q S (f + 1) l a w :=
  AnyS.take undef hi hs hf hr hQ ⟨fun h => (by rw [hw] at h; cases h), fun _ => rfl, hm⟩ hS h
theorem AnyS.on {i : Nat} {o : Oper} (v : Value) {f : Nat} {l : Array Bool} {a : Act} {w : World} (hi : ops[i]? = some o) (hs : Region.noSelect ops = true) (hf : Region.free md ops l i = true) (hr : (Region.ready md ops l).contains i = true)
    (hQ : ∀ c b u, Q (.panic c) (b.put o.dst v) u → Q (.panic c) b u) (hw : Region.wanted o (yielded ops a.tmps) = true) (hv : ∀ w, S w → (execOp a.eval o).run P w = .ok (.value v) w) (hm : ∀ w, o.about P w a.eval = none) (hS : S w)
    (h : AnyS n P md ops Q S f (l.setIfInBounds i true) (a.put o.dst v) w) : AnyS n P md ops Q S (f + 1) l a w :=
  AnyS.take v hi hs hf hr hQ ⟨fun _ => hv, fun h => (by rw [hw] at h; cases h), hm⟩ hS h
end
end Go.Proofs.YtnkcanhkdfckmaaDoor
