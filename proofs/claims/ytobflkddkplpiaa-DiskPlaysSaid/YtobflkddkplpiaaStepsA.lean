/- a []Step that came in.  -/
import Derived.Test.YtobflkddkplpiaaFrameInt
import Derived.Deep.Slices
namespace Go.Proofs.Ytobflkddkplpiaa
set_option linter.all false
open Go.ChangeShapes Go.WideShapes Go.ChangeAt Go.RowKit

/-- a step as it came in: its keep lies at ka -/
structure St where
  what : Int
  at0 : Int
  by_ : UInt8
  odd : Int
  ka : Option Addr
  kc : Nat
  keep : List Int
def St.cell (s : St) : List Value := [.int .u8 s.what, .int .i64 s.at0, .int .u8 (s.by_.toNat : Int), .int .i64 s.odd, .slice s.ka s.keep.length s.kc]
structure St.Wf (s : St) : Prop where
  what : 0 ≤ s.what ∧ s.what ≤ 255
  at0 : (Lit.int .i64 s.at0).wf = true
  odd : (Lit.int .i64 s.odd).wf = true
  keep : s.keep.length ≤ maxLen ∧ ∀ z ∈ s.keep, (Lit.int .i64 z).wf = true
def StepsR (w : World) (v : Value) (l : List St) (G : List Nat) : Prop :=
  ∃ a cap, v = .slice a l.length cap ∧ (∀ s ∈ l, SlR w (.slice s.ka s.keep.length s.kc) (s.keep.map (Value.int .i64)) G) ∧
    (0 < l.length → ∃ g off, a = some ⟨g, off, none⟩ ∧ g ∈ G ∧ ∀ i (h : i < l.length) j (hj : j < 5), w.cell? ⟨g, off + (i * 5 + j), none⟩ = (l[i]'h).cell[j]?)
theorem StepsR.keep {w w' : World} {v : Value} {l : List St} {G S : List Nat} (h : StepsR w v l G) (hc : Chg S w w') (hS : ∀ k, k ∈ G → k ∉ S) : StepsR w' v l G := by
  obtain ⟨a, cap, rfl, h1, h2⟩ := h
  refine ⟨a, cap, rfl, fun s hs => (h1 s hs).keep hc hS, fun hp => ?_⟩
  obtain ⟨g, off, rfl, hg, hcell⟩ := h2 hp
  refine ⟨g, off, rfl, hg, fun i hi j hj => ?_⟩
  have := hcell i hi j hj
  have hx : ((l[i]'hi).cell[j]?).isSome = true := by simp [St.cell]; omega
  obtain ⟨x, hx⟩ := Option.isSome_iff_exists.1 hx
  rw [hx] at this ⊢
  exact hc.cell this (hS g hg)
end Go.Proofs.Ytobflkddkplpiaa
