/- what a law's argument gives the walk. -/
import Derived.Test.YtnlppcjfpmnahaaDoorStrs
import Derived.ProofKit
import Derived.OpenShut
import Derived.ShutString
import Derived.ChangeOld
import Derived.SizedLaws
namespace Go.Proofs.YtnlppcjfpmnahaaDoor
set_option linter.all false
open Go.ChangeShapes Go.WideShapes Go.ChangeAt Go.RowKit
open Go.ChangeMaps (open_string shut_string)

theorem reach_le : reachBytes ≤ 140737488351232 := by decide

theorem size_toList (s : ByteArray) : s.data.toList.length = s.size := by rw [Array.length_toList]; rfl

set_option maxRecDepth 100000 in
theorem open_str_arg {H : Type} {enc : TypeId × Value → H} {W : World} {base : Nat} {v : Value} {d : DataW H} {p : List MemPlace} (hv : Value.okWide Tryd.prog W .any base 9 v)
    (h : DataW.Trod enc Tryd.prog W 0 (fun _ => true) true 9 v d p) : ∃ l : List UInt8, d = .lit (.string l) ∧ v = .string ⟨l.toArray⟩ ∧ l.length ≤ maxLen := by
  obtain ⟨s, rfl, rfl, _, hs⟩ := open_string Tryd.underlying9 hv h
  refine ⟨s.data.toList, rfl, ?_, ?_⟩
  · cases s; simp
  · rw [size_toList]; exact hs

theorem open_strs_trod {H : Type} {enc : TypeId × Value → H} {W : World} {v : Value} {y : DataW H × List MemPlace} {fuel : Nat}
    (hf : DataW.trod enc Tryd.prog W 0 (fun _ => true) true fuel 23 [v] = some y) :
    ∃ (ss : List (List UInt8)) (G : List Nat), StrsR W v ss G ∧ (∀ s ∈ ss, s.length ≤ maxLen) ∧ (∀ k ∈ G, k < W.heap.size) ∧ ss.length ≤ maxLen := by
  rcases open_strings Tryd.underlying23 Tryd.underlying9 (by kernel_rfl) hf with ⟨hcs, _⟩ | ⟨x, l, c, ss, hcs, _, hl, hm, hz, _, hcell, hws⟩
  · simp at hcs
    subst hcs
    exact ⟨[], [], strsR_nil _ _, by simp, by simp, by simp⟩
  · simp at hcs
    subst hcs
    have hz' : ss.length = c := by simpa using hz
    have hlen : ((ss.take l).map fun s => s.data.toList).length = l := by simp; omega
    by_cases h00 : l = 0
    · subst h00
      exact ⟨[], [], ⟨some x, c, rfl, fun hp => by simp at hp⟩, by simp, by simp, by simp⟩
    have h0 := hcell 0 (by omega)
    obtain ⟨b, off, spot⟩ := x
    cases spot with
    | some s =>
      exfalso
      revert h0
      unfold World.cell? Addr.add
      split <;> simp
    | none =>
      have hb : b < W.heap.size := World.block_lt_of_cell? W _ (by simpa [Addr.add] using h0)
      refine ⟨(ss.take l).map fun s => s.data.toList, [b], ⟨some ⟨b, off, none⟩, c, by rw [hlen], fun hp => ?_⟩, ?_, by simpa using hb, by rw [hlen]; omega⟩
      · refine ⟨b, off, rfl, by simp, fun i hi => ?_⟩
        have hi' : i < ss.length := by simp at hi; omega
        have := hcell i hi'
        rw [show (⟨b, off, none⟩ : Addr).add i = ⟨b, off + i, none⟩ from by unfold Addr.add; split <;> simp_all] at this
        rw [this]
        simp [hi']
      · intro s hs
        obtain ⟨s', hs', rfl⟩ := List.mem_map.1 hs
        rw [size_toList]
        exact hws s' (List.mem_of_mem_take hs')
set_option maxRecDepth 100000 in
theorem open_strs_arg {H : Type} {enc : TypeId × Value → H} {W : World} {base : Nat} {v : Value} {d : DataW H} {p : List MemPlace} (hv : Value.okWide Tryd.prog W .any base 23 v)
    (h : DataW.Trod enc Tryd.prog W 0 (fun _ => true) true 23 v d p) :
    ∃ (ss : List (List UInt8)) (G : List Nat), StrsR W v ss G ∧ (∀ s ∈ ss, s.length ≤ maxLen) ∧ (∀ k ∈ G, k < W.heap.size) ∧ ss.length ≤ maxLen := by
  obtain ⟨a, len, cap, rfl⟩ := okWide_slice Tryd.underlying23 hv
  obtain ⟨fuel, hf⟩ := h
  exact open_strs_trod (by simpa [Value.cells] using hf)
end Go.Proofs.YtnlppcjfpmnahaaDoor
