/- a cmd.Cmd that came in, opened. -/
import Derived.Test.YtehkdbgoeakgbaaGreatDoorCmBa
import Derived.Test.YtehkdbgoeakgbaaGreatDoorCmG
import Derived.Deep.Slices
namespace Go.Proofs.YtehkdbgoeakgbaaGreatDoor
set_option linter.all false
open Go.ChangeShapes Go.WideShapes Go.ChangeAt Go.RowKit

theorem ba_back7 (s : ByteArray) : (⟨s.data.toList.toArray⟩ : ByteArray) = s := by cases s; simp
set_option maxRecDepth 100000 in
theorem open_pm {H : Type} {enc : TypeId × Value → H} {W : World} {fuel : Nat} {cs : List Value} {x : DataW H × List MemPlace}
    (h : DataW.trod enc Tryz.prog W 0 (fun _ => true) true fuel 48 cs = some x) (hz : ∀ n ∈ x.1.weights Tryz.prog 48, n ≤ reachBytes) : ∃ f : Pm, cs = [.string ⟨f.1.toArray⟩, .string ⟨f.2.toArray⟩] ∧ f.1.length ≤ 140737488351232 ∧ f.2.length ≤ 140737488351232 := by
  obtain ⟨xs, k, hk, hxy, hcl, hxl, hf⟩ := DataW.trod_struct Tryz.underlying48 h
  have g0 := hf 0 _ rfl
  have g1 := hf 1 _ rfl
  rw [show Tryz.prog.cellsOf 48 = 2 from by kernel_rfl] at hcl
  match xs, hxl, cs, hcl with
  | [y0, y1], _, [c0, c1], _ =>
  have cu : Tryz.prog.cellsOf 9 = 1 := by kernel_rfl
  simp [cu] at g0 g1
  obtain ⟨s, e0, q0, -⟩ := DataW.trod_string Tryz.underlying9 g0
  obtain ⟨b, e1, q1, -⟩ := DataW.trod_string Tryz.underlying9 g1
  simp only [List.cons.injEq, and_true] at e0 e1
  subst e0 e1 q0 q1
  have hw : ∀ n, n = s.data.toList.length ∨ n = b.data.toList.length → n ≤ reachBytes := by
    intro n hn
    refine hz n ?_
    rw [hxy]
    simp only [DataW.weights, Tryz.underlying48]
    simpa [DataW.weights, DataW.weightsEach] using hn
  exact ⟨(s.data.toList, b.data.toList), by rw [ba_back7, ba_back7], Nat.le_trans (hw _ (.inl rfl)) reach_le, Nat.le_trans (hw _ (.inr rfl)) reach_le⟩
theorem weightsAll_mem7 {H : Type} {P : Program} {e : TypeId} : ∀ {l : List (DataW H)} {d : DataW H}, d ∈ l → ∀ n ∈ d.weights P e, n ∈ DataW.weightsAll P e l
  | d' :: r, d, hd, n, hn => by
    simp only [DataW.weightsAll, List.mem_append]
    rcases List.mem_cons.1 hd with rfl | h
    · exact Or.inl hn
    · exact Or.inr (weightsAll_mem7 h n hn)
set_option maxRecDepth 100000 in
theorem open_pms {H : Type} {enc : TypeId × Value → H} {W : World} {fuel : Nat} {v : Value} {x : DataW H × List MemPlace}
    (hf : DataW.trod enc Tryz.prog W 0 (fun _ => true) true fuel 22 [v] = some x) (hz : ∀ n ∈ x.1.weights Tryz.prog 22, n ≤ reachBytes) :
    ∃ (a : Option Addr) (cap : Nat) (l : List Pm), v = .slice a l.length cap ∧ PmR W (.slice a l.length cap) l ∧ l.length ≤ maxLen ∧ ∀ f ∈ l, f.1.length ≤ 140737488351232 ∧ f.2.length ≤ 140737488351232 := by
  rcases Deep.open_slice Tryz.underlying22 hf with ⟨hcs, _⟩ | ⟨y, len, c, m, n, D, Pl, hcs, _, hl, hm, hmm, hxx, hx⟩
  · simp at hcs
    subst hcs
    exact ⟨none, 0, [], rfl, PmR.nil _ _ _, by simp, by simp⟩
  · simp at hcs
    subst hcs
    have hmm' : m = c := by simpa using hmm
    subst hmm'
    rw [show Tryz.prog.cellsOf 48 = 2 from by kernel_rfl] at hx
    have hxd := congrArg Prod.fst hxx
    simp only at hxd
    obtain ⟨f, hfs⟩ := Deep.choose_lt (α := Pm) (p := fun i (q : Pm) => W.cells? 0 (y.add (i * 2)) 2 = some [.string ⟨q.1.toArray⟩, .string ⟨q.2.toArray⟩] ∧ q.1.length ≤ 140737488351232 ∧ q.2.length ≤ 140737488351232) (fun i hi => by
      obtain ⟨cs', h1, h2⟩ := hx i hi
      have hz2 : ∀ n ∈ (D i).weights Tryz.prog 48, n ≤ reachBytes := by
        intro n hn
        refine hz n ?_
        rw [hxd]
        simp only [DataW.weights, Tryz.underlying22, List.mem_cons, List.mem_append]
        rcases Nat.lt_or_ge i len with q | q
        · exact Or.inr (Or.inl (weightsAll_mem7 (List.mem_map.2 ⟨i, List.mem_range.2 q, rfl⟩) n hn))
        · exact Or.inr (Or.inr (weightsAll_mem7 (List.mem_map.2 ⟨i - len, List.mem_range.2 (by omega), by rw [Nat.add_sub_cancel' q]⟩) n hn))
      obtain ⟨r, rfl, z⟩ := open_pm h2 hz2
      exact ⟨r, h1, z⟩)
    by_cases h00 : len = 0
    · subst h00
      exact ⟨some y, m, [], rfl, PmR.nil _ _ _, by simp, by simp⟩
    obtain ⟨b, off, spot⟩ := y
    have hspot : spot = none := by
      have h1 := (hfs 0 (by omega)).1
      obtain ⟨_, _, hcell⟩ := World.cells?_some h1
      have := hcell 0 (by omega)
      simp [Addr.add] at this
      exact World.cell?_spot this
    subst hspot
    refine ⟨some ⟨b, off, none⟩, m, (List.range len).map f, by simp, ⟨_, _, rfl, by simp; omega, fun _ => ⟨b, off, rfl, fun i hi => ?_⟩⟩, by simp; omega, ?_⟩
    · have hi' : i < len := by simpa using hi
      obtain ⟨_, hlen, hcell⟩ := World.cells?_some (hfs i (by omega)).1
      have h0 := hcell 0 (by omega)
      have h1 := hcell 1 (by omega)
      rw [Deep.add_add, show (⟨b, off, none⟩ : Addr).add (i * 2 + 0) = ⟨b, off + i * 2, none⟩ from by unfold Addr.add; split <;> simp <;> omega] at h0
      rw [Deep.add_add, show (⟨b, off, none⟩ : Addr).add (i * 2 + 1) = ⟨b, off + i * 2 + 1, none⟩ from by unfold Addr.add; split <;> simp <;> omega] at h1
      simp only [List.getElem_map, List.getElem_range]
      exact ⟨by simpa using h0, by simpa using h1⟩
    · intro g hg
      obtain ⟨i, hi, rfl⟩ := List.mem_map.1 hg
      rw [List.mem_range] at hi
      exact (hfs i (by omega)).2
/-- what is known of a command that came in -/
structure CmdIn (W : World) (v : Value) (c : Cm) (a : Option Addr) (cap : Nat) : Prop where
  val : v = cmV c a c.ps.length cap
  rd : PmR W (.slice a c.ps.length cap) c.ps
  max : c.ps.length ≤ maxLen
  vb : c.verb ≤ 255
  arg : c.arg.length ≤ 140737488351232
  each : ∀ f ∈ c.ps, f.1.length ≤ 140737488351232 ∧ f.2.length ≤ 140737488351232
set_option maxRecDepth 100000 in
theorem open_cmd_Cmd_arg {H : Type} {enc : TypeId × Value → H} {W : World} {base : Nat} {v : Value} {d : DataW H} {p : List MemPlace} (hv : Value.okWide Tryz.prog W .any base 24 v)
    (h : DataW.Trod enc Tryz.prog W 0 (fun _ => true) true 24 v d p) (hz : ∀ n ∈ d.weights Tryz.prog 24, n ≤ reachBytes) : ∃ (c : Cm) (a : Option Addr) (cap : Nat), CmdIn W v c a cap := by
  obtain ⟨cs, rfl, hsz⟩ := okWide_struct Tryz.underlying24 hv
  obtain ⟨fuel, hf⟩ := h
  have hf : DataW.trod enc Tryz.prog W 0 (fun _ => true) true fuel 24 cs.toList = some (d, p) := by simpa [Value.cells] using hf
  obtain ⟨xs, k, hk, hxy, hcl, hxl, hf⟩ := DataW.trod_struct Tryz.underlying24 hf
  have g0 := hf 0 _ rfl
  have g1 := hf 1 _ rfl
  have g2 := hf 2 _ rfl
  rw [show Tryz.prog.cellsOf 24 = 3 from by kernel_rfl] at hcl
  obtain ⟨cl, rfl⟩ : ∃ l : List Value, cs = l.toArray := ⟨cs.toList, by simp⟩
  simp only [List.toList_toArray] at hcl g0 g1 g2
  match xs, hxl, cl, hcl with
  | [y0, y1, y2], _, [c0, c1, c2], _ =>
  have ci : Tryz.prog.cellsOf 5 = 1 := by kernel_rfl
  have cu : Tryz.prog.cellsOf 9 = 1 := by kernel_rfl
  have cp : Tryz.prog.cellsOf 22 = 1 := by kernel_rfl
  simp [ci, cu, cp] at g0 g1 g2
  obtain ⟨n, e0, q0, hw⟩ := DataW.trod_int Tryz.underlying5 g0
  obtain ⟨s, e1, q1, -⟩ := DataW.trod_string Tryz.underlying9 g1
  simp only [List.cons.injEq, and_true] at e0 e1
  subst e0 e1 q0 q1
  have hn : 0 ≤ n ∧ n ≤ 255 := by
    simp [Lit.wf, IntKind.min, IntKind.max, IntKind.signed, IntKind.bits] at hw
    omega
  have hz1 : s.data.toList.length ≤ reachBytes := by
    refine hz _ ?_
    rw [(Prod.mk.injEq .. ▸ hxy : d = _ ∧ p = _).1]
    simp only [DataW.weights, Tryz.underlying24]
    simp [DataW.weights, DataW.weightsEach]
  have hz2 : ∀ m ∈ y2.1.weights Tryz.prog 22, m ≤ reachBytes := by
    intro m hm
    refine hz m ?_
    rw [(Prod.mk.injEq .. ▸ hxy : d = _ ∧ p = _).1]
    simp only [DataW.weights, Tryz.underlying24]
    simp [DataW.weights, DataW.weightsEach]
    exact Or.inr hm
  obtain ⟨a, cap, l, rfl, r1, r2, r3⟩ := open_pms g2 hz2
  refine ⟨⟨n.toNat, s.data.toList, l⟩, a, cap, ?_, r1, r2, by simp only; omega, Nat.le_trans hz1 reach_le, r3⟩
  unfold cmV
  simp only [ba_back7]
  rw [show ((n.toNat : Nat) : Int) = n by omega]
end Go.Proofs.YtehkdbgoeakgbaaGreatDoor
