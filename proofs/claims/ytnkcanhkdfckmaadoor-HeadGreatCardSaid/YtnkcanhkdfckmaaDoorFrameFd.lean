/- a field, and fields, that came in, opened. -/
import Derived.Test.YtnkcanhkdfckmaaDoorFrame
import Derived.Test.YtnkcanhkdfckmaaDoorHdY
import Derived.Deep.Slices
namespace Go.Proofs.YtnkcanhkdfckmaaDoor
set_option linter.all false
open Go.ChangeShapes Go.WideShapes Go.ChangeAt Go.RowKit

theorem ba_back (s : ByteArray) : (⟨s.data.toList.toArray⟩ : ByteArray) = s := by cases s; simp
set_option maxRecDepth 100000 in
theorem open_fd {H : Type} {enc : TypeId × Value → H} {W : World} {fuel : Nat} {cs : List Value} {x : DataW H × List MemPlace}
    (h : DataW.trod enc Tryd.prog W 0 (fun _ => true) true fuel 29 cs = some x) (hz : ∀ n ∈ x.1.weights Tryd.prog 29, n ≤ reachBytes) : ∃ f : Fd, cs = [.string ⟨f.1.toArray⟩, .string ⟨f.2.toArray⟩] ∧ f.1.length ≤ 140737488351232 ∧ f.2.length ≤ 140737488351232 := by
  obtain ⟨xs, k, hk, hxy, hcl, hxl, hf⟩ := DataW.trod_struct Tryd.underlying29 h
  have g0 := hf 0 _ rfl
  have g1 := hf 1 _ rfl
  rw [show Tryd.prog.cellsOf 29 = 2 from by kernel_rfl] at hcl
  match xs, hxl, cs, hcl with
  | [y0, y1], _, [c0, c1], _ =>
  have cu : Tryd.prog.cellsOf 9 = 1 := by kernel_rfl
  simp [cu] at g0 g1
  obtain ⟨s, e0, q0, -⟩ := DataW.trod_string Tryd.underlying9 g0
  obtain ⟨b, e1, q1, -⟩ := DataW.trod_string Tryd.underlying9 g1
  simp only [List.cons.injEq, and_true] at e0 e1
  subst e0 e1 q0 q1
  have hw : ∀ n, n = s.data.toList.length ∨ n = b.data.toList.length → n ≤ reachBytes := by
    intro n hn
    refine hz n ?_
    rw [hxy]
    simp only [DataW.weights, Tryd.underlying29]
    simpa [DataW.weights, DataW.weightsEach] using hn
  exact ⟨(s.data.toList, b.data.toList), by rw [ba_back, ba_back], Nat.le_trans (hw _ (.inl rfl)) reach_le, Nat.le_trans (hw _ (.inr rfl)) reach_le⟩
theorem weightsAll_mem {H : Type} {P : Program} {e : TypeId} : ∀ {l : List (DataW H)} {d : DataW H}, d ∈ l → ∀ n ∈ d.weights P e, n ∈ DataW.weightsAll P e l
  | d' :: r, d, hd, n, hn => by
    simp only [DataW.weightsAll, List.mem_append]
    rcases List.mem_cons.1 hd with rfl | h
    · exact Or.inl hn
    · exact Or.inr (weightsAll_mem h n hn)
structure FieldIn (v : Value) (f : Fd) : Prop where
  val : v = fdV f
  nm : f.1.length ≤ 140737488351232
  vl : f.2.length ≤ 140737488351232
set_option maxRecDepth 100000 in
theorem open_head_Field_arg {H : Type} {enc : TypeId × Value → H} {W : World} {base : Nat} {v : Value} {d : DataW H} {p : List MemPlace} (hv : Value.okWide Tryd.prog W .any base 29 v)
    (h : DataW.Trod enc Tryd.prog W 0 (fun _ => true) true 29 v d p) (hz : ∀ n ∈ d.weights Tryd.prog 29, n ≤ reachBytes) : ∃ f : Fd, FieldIn v f := by
  obtain ⟨cs, rfl, hsz⟩ := okWide_struct Tryd.underlying29 hv
  obtain ⟨fuel, hf⟩ := h
  have hf : DataW.trod enc Tryd.prog W 0 (fun _ => true) true fuel 29 cs.toList = some (d, p) := by simpa [Value.cells] using hf
  obtain ⟨f, h1, h2, h3⟩ := open_fd hf hz
  refine ⟨f, ?_, h2, h3⟩
  unfold fdV
  congr 1
  apply Array.toList_inj.1
  rw [h1]
/-- what is known of fields that came in -/
structure FieldsIn (W : World) (v : Value) (l : List Fd) : Prop where
  rd : FdR W v l
  max : l.length ≤ maxLen
  each : ∀ f ∈ l, f.1.length ≤ 140737488351232 ∧ f.2.length ≤ 140737488351232
set_option maxRecDepth 100000 in
theorem open_s_head_Field_arg {H : Type} {enc : TypeId × Value → H} {W : World} {base : Nat} {v : Value} {d : DataW H} {p : List MemPlace} (hv : Value.okWide Tryd.prog W .any base 30 v)
    (h : DataW.Trod enc Tryd.prog W 0 (fun _ => true) true 30 v d p) (hz : ∀ n ∈ d.weights Tryd.prog 30, n ≤ reachBytes) : ∃ l : List Fd, FieldsIn W v l := by
  obtain ⟨a, len, cap, rfl⟩ := okWide_slice Tryd.underlying30 hv
  obtain ⟨fuel, hf⟩ := h
  have hf : DataW.trod enc Tryd.prog W 0 (fun _ => true) true fuel 30 [.slice a len cap] = some (d, p) := by simpa [Value.cells] using hf
  rcases Deep.open_slice Tryd.underlying30 hf with ⟨hcs, _⟩ | ⟨y, l, c, m, n, D, Pl, hcs, _, hl, hm, hmm, hxx, hx⟩
  · simp at hcs
    obtain ⟨rfl, rfl, rfl⟩ := hcs
    exact ⟨[], ⟨none, 0, rfl, fun h => by simp at h⟩, by simp, by simp⟩
  · simp at hcs
    obtain ⟨rfl, rfl, rfl⟩ := hcs
    have hmm' : m = cap := by simpa using hmm
    subst hmm'
    rw [show Tryd.prog.cellsOf 29 = 2 from by kernel_rfl] at hx
    have hxd := congrArg Prod.fst hxx
    simp only at hxd
    obtain ⟨f, hfs⟩ := Deep.choose_lt (α := Fd) (p := fun i (q : Fd) => W.cells? 0 (y.add (i * 2)) 2 = some [.string ⟨q.1.toArray⟩, .string ⟨q.2.toArray⟩] ∧ q.1.length ≤ 140737488351232 ∧ q.2.length ≤ 140737488351232) (fun i hi => by
      obtain ⟨cs', h1, h2⟩ := hx i hi
      have hz2 : ∀ n ∈ (D i).weights Tryd.prog 29, n ≤ reachBytes := by
        intro n hn
        refine hz n ?_
        rw [hxd]
        simp only [DataW.weights, Tryd.underlying30, List.mem_cons, List.mem_append]
        rcases Nat.lt_or_ge i len with q | q
        · exact Or.inr (Or.inl (weightsAll_mem (List.mem_map.2 ⟨i, List.mem_range.2 q, rfl⟩) n hn))
        · exact Or.inr (Or.inr (weightsAll_mem (List.mem_map.2 ⟨i - len, List.mem_range.2 (by omega), by rw [Nat.add_sub_cancel' q]⟩) n hn))
      obtain ⟨r, rfl, z⟩ := open_fd h2 hz2
      exact ⟨r, h1, z⟩)
    by_cases h00 : len = 0
    · subst h00
      exact ⟨[], ⟨some y, m, rfl, fun hp => by simp at hp⟩, by simp, by simp⟩
    obtain ⟨b, off, spot⟩ := y
    have hspot : spot = none := by
      have h1 := (hfs 0 (by omega)).1
      obtain ⟨_, _, hcell⟩ := World.cells?_some h1
      have := hcell 0 (by omega)
      simp [Addr.add] at this
      exact World.cell?_spot this
    subst hspot
    refine ⟨(List.range len).map f, ⟨some ⟨b, off, none⟩, m, by simp, fun _ => ⟨b, off, rfl, fun i hi => ?_⟩⟩, by simp; omega, ?_⟩
    · have hi' : i < len := by simpa using hi
      obtain ⟨_, hlen, hcell⟩ := World.cells?_some (hfs i (by omega)).1
      have h0 := hcell 0 (by omega)
      have h1 := hcell 1 (by omega)
      rw [Deep.add_add, show (⟨b, off, none⟩ : Addr).add (i * 2 + 0) = ⟨b, off + i * 2, none⟩ from by unfold Addr.add; split <;> simp <;> omega] at h0
      rw [Deep.add_add, show (⟨b, off, none⟩ : Addr).add (i * 2 + 1) = ⟨b, off + i * 2 + 1, none⟩ from by unfold Addr.add; split <;> simp <;> omega] at h1
      simp only [List.getElem_map, List.getElem_range]
      exact ⟨by simpa using h0, by simpa using h1⟩
    · intro g hg
      obtain ⟨i, hi, rfl⟩ := List.mem_map.1 hg
      rw [List.mem_range] at hi
      exact (hfs i (by omega)).2
end Go.Proofs.YtnkcanhkdfckmaaDoor
