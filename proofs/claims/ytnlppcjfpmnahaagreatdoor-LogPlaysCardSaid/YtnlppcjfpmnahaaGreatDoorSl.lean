/- slices of one-cell values that are read. -/
import Derived.Test.YtnlppcjfpmnahaaGreatDoorHold
namespace Go.Proofs.YtnlppcjfpmnahaaGreatDoor
set_option linter.all false
open Go.RowKit

/-- the slice v reads the values xs; G: the blocks on which that leans -/
def SlR (w : World) (v : Value) (xs : List Value) (G : List Nat) : Prop :=
  ∃ a cap, v = .slice a xs.length cap ∧ (0 < xs.length → ∃ g off, a = some ⟨g, off, none⟩ ∧ g ∈ G ∧ ∀ i (h : i < xs.length), w.cell? ⟨g, off + i, none⟩ = some xs[i])
theorem SlR.keep {w w' : World} {v : Value} {xs : List Value} {G S : List Nat} (h : SlR w v xs G) (hc : Chg S w w') (hS : ∀ k, k ∈ G → k ∉ S) : SlR w' v xs G := by
  obtain ⟨a, cap, rfl, hr⟩ := h
  refine ⟨a, cap, rfl, fun hp => ?_⟩
  obtain ⟨g, off, rfl, hg, hcell⟩ := hr hp
  exact ⟨g, off, rfl, hg, fun i hi => hc.cell (hcell i hi) (hS g hg)⟩
theorem SlR.read {w : World} {a : Option Addr} {n cap : Nat} {xs : List Value} {G : List Nat} (h : SlR w (.slice a n cap) xs G) {k : Nat} (hk : k < xs.length) :
    ∃ g off, a = some ⟨g, off, none⟩ ∧ w.cell? ⟨g, off + k, none⟩ = some xs[k] := by
  obtain ⟨a', cap', hv, hr⟩ := h
  obtain ⟨g, off, rfl, _, hc⟩ := hr (by omega)
  simp only [Value.slice.injEq] at hv
  exact ⟨g, off, hv.1, hc k hk⟩
theorem SlR.len {w : World} {a : Option Addr} {n cap : Nat} {xs : List Value} {G : List Nat} (h : SlR w (.slice a n cap) xs G) : n = xs.length := by
  obtain ⟨a', cap', hv, hr⟩ := h
  simp only [Value.slice.injEq] at hv
  exact hv.2.1
theorem Own.cameSl {w0 w : World} {L : List Piece} (h : Own w0 w L) {v : Value} {xs : List Value} {G : List Nat} (hv : SlR w0 v xs G) : SlR w v xs G := hv.keep h.chg (by simp)
end Go.Proofs.YtnlppcjfpmnahaaGreatDoor
