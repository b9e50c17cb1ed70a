/- bytes that came in, opened. -/
import Derived.Test.YtghgiaokdbeepaaFrame
import Derived.Test.YtghgiaokdbeepaaReplyW
import Derived.ChangeSlices
namespace Go.Proofs.Ytghgiaokdbeepaa
set_option linter.all false
open Go.ChangeShapes Go.WideShapes Go.ChangeAt Go.RowKit

theorem open_s_uint8_arg {H : Type} {enc : TypeId × Value → H} {W : World} {base : Nat} {v : Value} {d : DataW H} {p : List MemPlace} (hv : Value.okWide Try.prog W .any base 42 v)
    (h : DataW.Trod enc Try.prog W 0 (fun _ => true) true 42 v d p) :
    ∃ (bs : List UInt8) (G : List Nat), U8s W v bs G ∧ bs.length ≤ maxLen := by
  obtain ⟨a, len, cap, rfl⟩ := okWide_slice Try.underlying42 hv
  obtain ⟨fuel, hf⟩ := h
  have hf : DataW.trod enc Try.prog W 0 (fun _ => true) true fuel 42 [.slice a len cap] = some (d, p) := by simpa [Value.cells] using hf
  rcases open_ints Try.underlying42 Try.underlying5 (by kernel_rfl) hf with ⟨hcs, _⟩ | ⟨x, l, c, zs, hcs, _, hl, hm, hz, _, hcell, hws⟩
  · simp at hcs
    obtain ⟨rfl, rfl, rfl⟩ := hcs
    exact ⟨[], [], ⟨none, 0, rfl, fun h => by simp at h⟩, by simp⟩
  · simp at hcs
    obtain ⟨rfl, rfl, rfl⟩ := hcs
    have hz' : zs.length = cap := by simpa using hz
    have hlen : ((zs.take len).map fun n => UInt8.ofNat n.toNat).length = len := by simp; omega
    by_cases h00 : len = 0
    · subst h00
      exact ⟨[], [], ⟨some x, cap, rfl, fun hp => by simp at hp⟩, by simp⟩
    have h0 := hcell 0 (by omega)
    obtain ⟨b, off, spot⟩ := x
    have hspot : spot = none := by simpa [Addr.add] using World.cell?_spot h0
    subst hspot
    refine ⟨(zs.take len).map fun n => UInt8.ofNat n.toNat, [b], ⟨some ⟨b, off, none⟩, cap, by rw [hlen], fun hp => ?_⟩, by rw [hlen]; omega⟩
    refine ⟨b, off, rfl, by simp, fun i hi => ?_⟩
    have hi' : i < zs.length := by simp at hi; omega
    have := hcell i hi'
    rw [show (⟨b, off, none⟩ : Addr).add i = ⟨b, off + i, none⟩ from by unfold Addr.add; split <;> simp_all] at this
    rw [this]
    have hb := bounds_u8 (hws zs[i] (List.getElem_mem hi'))
    simp [hi']
    omega
end Go.Proofs.Ytghgiaokdbeepaa
