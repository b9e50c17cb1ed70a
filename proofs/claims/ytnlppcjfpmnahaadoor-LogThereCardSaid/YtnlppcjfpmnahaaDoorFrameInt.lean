/- ints that came in, opened. -/
import Derived.Test.YtnlppcjfpmnahaaDoorFrame
import Derived.Test.YtnlppcjfpmnahaaDoorSl
import Derived.ChangeSlices
namespace Go.Proofs.YtnlppcjfpmnahaaDoor
set_option linter.all false
open Go.ChangeShapes Go.WideShapes Go.ChangeAt Go.RowKit

set_option maxRecDepth 100000 in
theorem open_s_int_arg {H : Type} {enc : TypeId × Value → H} {W : World} {base : Nat} {v : Value} {d : DataW H} {p : List MemPlace} (hv : Value.okWide Tryd.prog W .any base 48 v)
    (h : DataW.Trod enc Tryd.prog W 0 (fun _ => true) true 48 v d p) :
    ∃ (zs : List Int) (G : List Nat), SlR W v (zs.map (.int .i64)) G ∧ zs.length ≤ maxLen ∧ ∀ z ∈ zs, (Lit.int .i64 z).wf = true := by
  obtain ⟨a, len, cap, rfl⟩ := okWide_slice Tryd.underlying48 hv
  obtain ⟨fuel, hf⟩ := h
  have hf : DataW.trod enc Tryd.prog W 0 (fun _ => true) true fuel 48 [.slice a len cap] = some (d, p) := by simpa [Value.cells] using hf
  rcases open_ints Tryd.underlying48 Tryd.underlying3 (by kernel_rfl) hf with ⟨hcs, _⟩ | ⟨x, l, c, zs, hcs, _, hl, hm, hz, _, hcell, hws⟩
  · simp at hcs
    obtain ⟨rfl, rfl, rfl⟩ := hcs
    exact ⟨[], [], ⟨none, 0, rfl, fun h => by simp at h⟩, by simp, by simp⟩
  · simp at hcs
    obtain ⟨rfl, rfl, rfl⟩ := hcs
    have hz' : zs.length = cap := by simpa using hz
    have hlen : ((zs.take len).map (Value.int .i64)).length = len := by simp; omega
    by_cases h00 : len = 0
    · subst h00
      exact ⟨[], [], ⟨some x, cap, rfl, fun hp => by simp at hp⟩, by simp, by simp⟩
    have h0 := hcell 0 (by omega)
    obtain ⟨b, off, spot⟩ := x
    have hspot : spot = none := by simpa [Addr.add] using World.cell?_spot h0
    subst hspot
    refine ⟨zs.take len, [b], ⟨some ⟨b, off, none⟩, cap, by rw [hlen], fun hp => ?_⟩, by simp; omega, fun z hz => hws z (List.mem_of_mem_take hz)⟩
    refine ⟨b, off, rfl, by simp, fun i hi => ?_⟩
    have hi' : i < zs.length := by simp at hi; omega
    have := hcell i hi'
    rw [show (⟨b, off, none⟩ : Addr).add i = ⟨b, off + i, none⟩ from by unfold Addr.add; split <;> simp_all] at this
    rw [this]
    simp [hi']
end Go.Proofs.YtnlppcjfpmnahaaDoor
