/- bools that came in, opened. -/
import Derived.Test.YtkgfdmfkmcbecaaFrame
import Derived.Test.YtkgfdmfkmcbecaaSl
import Derived.Deep.Grids
namespace Go.Proofs.Ytkgfdmfkmcbecaa
set_option linter.all false
open Go.ChangeShapes Go.WideShapes Go.ChangeAt Go.RowKit

theorem open_s_bool_sl {H : Type} {enc : TypeId × Value → H} {W : World} {base : Nat} {v : Value} {d : DataW H} {p : List MemPlace} (hv : Value.okWide Try.prog W .any base 41 v)
    (h : DataW.Trod enc Try.prog W 0 (fun _ => true) true 41 v d p) :
    ∃ (bs : List Bool) (G : List Nat), SlR W v (bs.map .bool) G ∧ bs.length ≤ maxLen := by
  obtain ⟨a, len, cap, rfl⟩ := okWide_slice Try.underlying41 hv
  obtain ⟨fuel, hf⟩ := h
  have hf : DataW.trod enc Try.prog W 0 (fun _ => true) true fuel 41 [.slice a len cap] = some (d, p) := by simpa [Value.cells] using hf
  rcases Go.Deep.open_bools Try.underlying41 Try.underlying4 (by kernel_rfl) hf with ⟨hcs, _⟩ | ⟨x, l, c, B, hcs, _, hl, hm, _, hcell⟩
  · simp at hcs
    obtain ⟨rfl, rfl, rfl⟩ := hcs
    exact ⟨[], [], ⟨none, 0, rfl, fun h => by simp at h⟩, by simp⟩
  · simp at hcs
    obtain ⟨rfl, rfl, rfl⟩ := hcs
    by_cases h00 : len = 0
    · subst h00
      exact ⟨[], [], ⟨some x, cap, rfl, fun hp => by simp at hp⟩, by simp⟩
    have h0 := hcell 0 (by omega)
    obtain ⟨b, off, spot⟩ := x
    have hspot : spot = none := by simpa [Addr.add] using World.cell?_spot h0
    subst hspot
    refine ⟨(List.range len).map B, [b], ⟨some ⟨b, off, none⟩, cap, by simp, fun hp => ?_⟩, by simp; omega⟩
    refine ⟨b, off, rfl, by simp, fun i hi => ?_⟩
    have hi' : i < len := by simpa using hi
    have := hcell i (by omega)
    rw [show (⟨b, off, none⟩ : Addr).add i = ⟨b, off + i, none⟩ from by unfold Addr.add; split <;> simp_all] at this
    rw [this]
    simp
end Go.Proofs.Ytkgfdmfkmcbecaa
