/- merged: Frame FrameInt LgSt (wip/merge.py) -/
import Derived.Test.YtnlppcjfpmnahaaGreatDoorStrs
import Derived.ProofKit
import Derived.OpenShut
import Derived.ShutString
import Derived.ChangeOld
import Derived.SizedLaws
import Derived.Test.YtnlppcjfpmnahaaGreatDoorSl
import Derived.ChangeSlices
import Derived.Deep.Slices
/- what a law's argument gives the walk. -/
namespace Go.Proofs.YtnlppcjfpmnahaaGreatDoor
set_option linter.all false
open Go.ChangeShapes Go.WideShapes Go.ChangeAt Go.RowKit
open Go.ChangeMaps (open_string shut_string)

theorem reach_le : reachBytes ≤ 140737488351232 := by decide

theorem size_toList (s : ByteArray) : s.data.toList.length = s.size := by rw [Array.length_toList]; rfl

set_option maxRecDepth 100000 in
theorem open_str_arg {H : Type} {enc : TypeId × Value → H} {W : World} {base : Nat} {v : Value} {d : DataW H} {p : List MemPlace} (hv : Value.okWide Tryz.prog W .any base 9 v)
    (h : DataW.Trod enc Tryz.prog W 0 (fun _ => true) true 9 v d p) : ∃ l : List UInt8, d = .lit (.string l) ∧ v = .string ⟨l.toArray⟩ ∧ l.length ≤ maxLen := by
  obtain ⟨s, rfl, rfl, _, hs⟩ := open_string Tryz.underlying9 hv h
  refine ⟨s.data.toList, rfl, ?_, ?_⟩
  · cases s; simp
  · rw [size_toList]; exact hs

theorem open_strs_trod {H : Type} {enc : TypeId × Value → H} {W : World} {v : Value} {y : DataW H × List MemPlace} {fuel : Nat}
    (hf : DataW.trod enc Tryz.prog W 0 (fun _ => true) true fuel 23 [v] = some y) :
    ∃ (ss : List (List UInt8)) (G : List Nat), StrsR W v ss G ∧ (∀ s ∈ ss, s.length ≤ maxLen) ∧ (∀ k ∈ G, k < W.heap.size) ∧ ss.length ≤ maxLen := by
  rcases open_strings Tryz.underlying23 Tryz.underlying9 (by kernel_rfl) hf with ⟨hcs, _⟩ | ⟨x, l, c, ss, hcs, _, hl, hm, hz, _, hcell, hws⟩
  · simp at hcs
    subst hcs
    exact ⟨[], [], strsR_nil _ _, by simp, by simp, by simp⟩
  · simp at hcs
    subst hcs
    have hz' : ss.length = c := by simpa using hz
    have hlen : ((ss.take l).map fun s => s.data.toList).length = l := by simp; omega
    by_cases h00 : l = 0
    · subst h00
      exact ⟨[], [], ⟨some x, c, rfl, fun hp => by simp at hp⟩, by simp, by simp, by simp⟩
    have h0 := hcell 0 (by omega)
    obtain ⟨b, off, spot⟩ := x
    cases spot with
    | some s =>
      exfalso
      revert h0
      unfold World.cell? Addr.add
      split <;> simp
    | none =>
      have hb : b < W.heap.size := World.block_lt_of_cell? W _ (by simpa [Addr.add] using h0)
      refine ⟨(ss.take l).map fun s => s.data.toList, [b], ⟨some ⟨b, off, none⟩, c, by rw [hlen], fun hp => ?_⟩, ?_, by simpa using hb, by rw [hlen]; omega⟩
      · refine ⟨b, off, rfl, by simp, fun i hi => ?_⟩
        have hi' : i < ss.length := by simp at hi; omega
        have := hcell i hi'
        rw [show (⟨b, off, none⟩ : Addr).add i = ⟨b, off + i, none⟩ from by unfold Addr.add; split <;> simp_all] at this
        rw [this]
        simp [hi']
      · intro s hs
        obtain ⟨s', hs', rfl⟩ := List.mem_map.1 hs
        rw [size_toList]
        exact hws s' (List.mem_of_mem_take hs')
set_option maxRecDepth 100000 in
theorem open_strs_arg {H : Type} {enc : TypeId × Value → H} {W : World} {base : Nat} {v : Value} {d : DataW H} {p : List MemPlace} (hv : Value.okWide Tryz.prog W .any base 23 v)
    (h : DataW.Trod enc Tryz.prog W 0 (fun _ => true) true 23 v d p) :
    ∃ (ss : List (List UInt8)) (G : List Nat), StrsR W v ss G ∧ (∀ s ∈ ss, s.length ≤ maxLen) ∧ (∀ k ∈ G, k < W.heap.size) ∧ ss.length ≤ maxLen := by
  obtain ⟨a, len, cap, rfl⟩ := okWide_slice Tryz.underlying23 hv
  obtain ⟨fuel, hf⟩ := h
  exact open_strs_trod (by simpa [Value.cells] using hf)
end Go.Proofs.YtnlppcjfpmnahaaGreatDoor
/- ints that came in, opened. -/
namespace Go.Proofs.YtnlppcjfpmnahaaGreatDoor
set_option linter.all false
open Go.ChangeShapes Go.WideShapes Go.ChangeAt Go.RowKit

set_option maxRecDepth 100000 in
theorem open_s_int_arg {H : Type} {enc : TypeId × Value → H} {W : World} {base : Nat} {v : Value} {d : DataW H} {p : List MemPlace} (hv : Value.okWide Tryz.prog W .any base 24 v)
    (h : DataW.Trod enc Tryz.prog W 0 (fun _ => true) true 24 v d p) :
    ∃ (zs : List Int) (G : List Nat), SlR W v (zs.map (.int .i64)) G ∧ zs.length ≤ maxLen ∧ ∀ z ∈ zs, (Lit.int .i64 z).wf = true := by
  obtain ⟨a, len, cap, rfl⟩ := okWide_slice Tryz.underlying24 hv
  obtain ⟨fuel, hf⟩ := h
  have hf : DataW.trod enc Tryz.prog W 0 (fun _ => true) true fuel 24 [.slice a len cap] = some (d, p) := by simpa [Value.cells] using hf
  rcases open_ints Tryz.underlying24 Tryz.underlying3 (by kernel_rfl) hf with ⟨hcs, _⟩ | ⟨x, l, c, zs, hcs, _, hl, hm, hz, _, hcell, hws⟩
  · simp at hcs
    obtain ⟨rfl, rfl, rfl⟩ := hcs
    exact ⟨[], [], ⟨none, 0, rfl, fun h => by simp at h⟩, by simp, by simp⟩
  · simp at hcs
    obtain ⟨rfl, rfl, rfl⟩ := hcs
    have hz' : zs.length = cap := by simpa using hz
    have hlen : ((zs.take len).map (Value.int .i64)).length = len := by simp; omega
    by_cases h00 : len = 0
    · subst h00
      exact ⟨[], [], ⟨some x, cap, rfl, fun hp => by simp at hp⟩, by simp, by simp⟩
    have h0 := hcell 0 (by omega)
    obtain ⟨b, off, spot⟩ := x
    have hspot : spot = none := by simpa [Addr.add] using World.cell?_spot h0
    subst hspot
    refine ⟨zs.take len, [b], ⟨some ⟨b, off, none⟩, cap, by rw [hlen], fun hp => ?_⟩, by simp; omega, fun z hz => hws z (List.mem_of_mem_take hz)⟩
    refine ⟨b, off, rfl, by simp, fun i hi => ?_⟩
    have hi' : i < zs.length := by simp at hi; omega
    have := hcell i hi'
    rw [show (⟨b, off, none⟩ : Addr).add i = ⟨b, off + i, none⟩ from by unfold Addr.add; split <;> simp_all] at this
    rw [this]
    simp [hi']
end Go.Proofs.YtnlppcjfpmnahaaGreatDoor
/- a []Step that came in (of disk StepsA, StepsB, StepsC). -/
namespace Go.Proofs.YtnlppcjfpmnahaaGreatDoor
set_option linter.all false
open Go.ChangeShapes Go.WideShapes Go.ChangeAt Go.RowKit

/-- a step as it came in: its keep lies at ka -/
structure St where
  what : Int
  half : Int
  age : Int
  s : List UInt8
  many : Int
  ka : Option Addr
  kc : Nat
  keep : List Int
def St.cell (s : St) : List Value := [.int .u8 s.what, .int .i64 s.half, .int .i64 s.age, .string ⟨s.s.toArray⟩, .int .i64 s.many, .slice s.ka s.keep.length s.kc]
structure St.Wf (s : St) : Prop where
  what : 0 ≤ s.what ∧ s.what ≤ 255
  half : (Lit.int .i64 s.half).wf = true
  age : (Lit.int .i64 s.age).wf = true
  many : (Lit.int .i64 s.many).wf = true
  keep : s.keep.length ≤ maxLen ∧ ∀ z ∈ s.keep, (Lit.int .i64 z).wf = true
def StepsR (w : World) (v : Value) (l : List St) (G : List Nat) : Prop :=
  ∃ a cap, v = .slice a l.length cap ∧ (∀ s ∈ l, SlR w (.slice s.ka s.keep.length s.kc) (s.keep.map (Value.int .i64)) G) ∧
    (0 < l.length → ∃ g off, a = some ⟨g, off, none⟩ ∧ g ∈ G ∧ ∀ i (h : i < l.length) j (hj : j < 6), w.cell? ⟨g, off + (i * 6 + j), none⟩ = (l[i]'h).cell[j]?)
theorem StepsR.keep {w w' : World} {v : Value} {l : List St} {G S : List Nat} (h : StepsR w v l G) (hc : Chg S w w') (hS : ∀ k, k ∈ G → k ∉ S) : StepsR w' v l G := by
  obtain ⟨a, cap, rfl, h1, h2⟩ := h
  refine ⟨a, cap, rfl, fun s hs => (h1 s hs).keep hc hS, fun hp => ?_⟩
  obtain ⟨g, off, rfl, hg, hcell⟩ := h2 hp
  refine ⟨g, off, rfl, hg, fun i hi j hj => ?_⟩
  have := hcell i hi j hj
  have hx : ((l[i]'hi).cell[j]?).isSome = true := by simp [St.cell]; omega
  obtain ⟨x, hx⟩ := Option.isSome_iff_exists.1 hx
  rw [hx] at this ⊢
  exact hc.cell this (hS g hg)
set_option maxRecDepth 100000 in
theorem open_keep {H : Type} {enc : TypeId × Value → H} {W : World} {fuel : Nat} {v : Value} {x : DataW H × List MemPlace}
    (hf : DataW.trod enc Tryz.prog W 0 (fun _ => true) true fuel 24 [v] = some x) :
    ∃ (ka : Option Addr) (kc : Nat) (zs : List Int) (G : List Nat), v = .slice ka zs.length kc ∧ SlR W (.slice ka zs.length kc) (zs.map (.int .i64)) G ∧ zs.length ≤ maxLen ∧ ∀ z ∈ zs, (Lit.int .i64 z).wf = true := by
  rcases open_ints Tryz.underlying24 Tryz.underlying3 (by kernel_rfl) hf with ⟨hcs, _⟩ | ⟨x, l, c, zs, hcs, _, hl, hm, hz, _, hcell, hws⟩
  · simp at hcs
    exact ⟨none, 0, [], [], hcs, ⟨none, 0, rfl, fun h => by simp at h⟩, by simp, by simp⟩
  · simp at hcs
    have hz' : zs.length = c := by simpa using hz
    have hlen : (zs.take l).length = l := by simp; omega
    by_cases h00 : l = 0
    · subst h00
      exact ⟨some x, c, [], [], hcs, ⟨some x, c, rfl, fun hp => by simp at hp⟩, by simp, by simp⟩
    have h0 := hcell 0 (by omega)
    obtain ⟨b, off, spot⟩ := x
    have hspot : spot = none := by simpa [Addr.add] using World.cell?_spot h0
    subst hspot
    refine ⟨some ⟨b, off, none⟩, c, zs.take l, [b], by rw [hlen]; exact hcs, ⟨some ⟨b, off, none⟩, c, by simp, fun hp => ?_⟩, by rw [hlen]; omega, fun z hz => hws z (List.mem_of_mem_take hz)⟩
    refine ⟨b, off, rfl, by simp, fun i hi => ?_⟩
    have hi' : i < zs.length := by simp at hi; omega
    have := hcell i hi'
    rw [show (⟨b, off, none⟩ : Addr).add i = ⟨b, off + i, none⟩ from by unfold Addr.add; split <;> simp_all] at this
    rw [this]
    simp [hi']

theorem wf8 {n : Int} (h : (Lit.int .u8 n).wf = true) : 0 ≤ n ∧ n ≤ 255 := by
  have := bounds_u8 h
  omega
instance : Inhabited St := ⟨⟨0, 0, 0, [], 0, none, 0, []⟩⟩
theorem SlR.wider {w : World} {v : Value} {xs : List Value} {G H : List Nat} (h : SlR w v xs G) (hG : ∀ k, k ∈ G → k ∈ H) : SlR w v xs H := by
  obtain ⟨a, cap, rfl, hr⟩ := h
  refine ⟨a, cap, rfl, fun hp => ?_⟩
  obtain ⟨g, off, rfl, hg, hc⟩ := hr hp
  exact ⟨g, off, rfl, hG g hg, hc⟩

set_option maxRecDepth 100000 in
theorem open_step {H : Type} {enc : TypeId × Value → H} {W : World} {fuel : Nat} {cs : List Value} {x : DataW H × List MemPlace}
    (h : DataW.trod enc Tryz.prog W 0 (fun _ => true) true fuel 69 cs = some x) :
    ∃ (s : St) (G : List Nat), cs = s.cell ∧ s.Wf ∧ SlR W (.slice s.ka s.keep.length s.kc) (s.keep.map (.int .i64)) G := by
  obtain ⟨xs, k, hk, hxy, hcl, hxl, hf⟩ := DataW.trod_struct Tryz.underlying69 h
  have g0 := hf 0 _ rfl
  have g1 := hf 1 _ rfl
  have g2 := hf 2 _ rfl
  have g3 := hf 3 _ rfl
  have g4 := hf 4 _ rfl
  have g5 := hf 5 _ rfl
  rw [show Tryz.prog.cellsOf 69 = 6 from by kernel_rfl] at hcl
  match xs, hxl, cs, hcl with
  | [y0, y1, y2, y3, y4, y5], _, [c0, c1, c2, c3, c4, c5], _ =>
  have cu : Tryz.prog.cellsOf 5 = 1 := by kernel_rfl
  have ci : Tryz.prog.cellsOf 3 = 1 := by kernel_rfl
  have cs1 : Tryz.prog.cellsOf 9 = 1 := by kernel_rfl
  have ck : Tryz.prog.cellsOf 24 = 1 := by kernel_rfl
  simp [cu, ci, cs1, ck] at g0 g1 g2 g3 g4 g5
  obtain ⟨n0, e0, -, w0⟩ := DataW.trod_int Tryz.underlying5 g0
  obtain ⟨n1, e1, -, w1⟩ := DataW.trod_int Tryz.underlying3 g1
  obtain ⟨n2, e2, -, w2⟩ := DataW.trod_int Tryz.underlying3 g2
  obtain ⟨n3, e3, -, -⟩ := DataW.trod_string Tryz.underlying9 g3
  obtain ⟨n4, e4, -, w4⟩ := DataW.trod_int Tryz.underlying3 g4
  obtain ⟨ka, kc, zs, G, e5, hs, hl, hw⟩ := open_keep g5
  simp only [List.cons.injEq, and_true] at e0 e1 e2 e3 e4
  subst e0 e1 e2 e3 e4 e5
  have b0 : 0 ≤ n0 ∧ n0 ≤ 255 := wf8 w0
  refine ⟨⟨n0, n1, n2, n3.data.toList, n4, ka, kc, zs⟩, G, ?_, ⟨b0, w1, w2, w4, hl, hw⟩, hs⟩
  simp only [St.cell]


set_option maxRecDepth 100000 in
theorem open_s_mailroomlaw12_Step_arg {H : Type} {enc : TypeId × Value → H} {W : World} {base : Nat} {v : Value} {d : DataW H} {p : List MemPlace} (hv : Value.okWide Tryz.prog W .any base 22 v)
    (h : DataW.Trod enc Tryz.prog W 0 (fun _ => true) true 22 v d p) :
    ∃ (l : List St) (G : List Nat), StepsR W v l G ∧ l.length ≤ maxLen ∧ ∀ s ∈ l, s.Wf := by
  obtain ⟨a, len, cap, rfl⟩ := okWide_slice Tryz.underlying22 hv
  obtain ⟨fuel, hf⟩ := h
  have hf : DataW.trod enc Tryz.prog W 0 (fun _ => true) true fuel 22 [.slice a len cap] = some (d, p) := by simpa [Value.cells] using hf
  rcases Deep.open_slice Tryz.underlying22 hf with ⟨hcs, _⟩ | ⟨x, l, c, m, n, D, Pl, hcs, _, hl, hm, hmm, _, hx⟩
  · simp at hcs
    obtain ⟨rfl, rfl, rfl⟩ := hcs
    exact ⟨[], [], ⟨none, 0, rfl, by simp, fun h => by simp at h⟩, by simp, by simp⟩
  · simp at hcs
    obtain ⟨rfl, rfl, rfl⟩ := hcs
    have hmm' : m = cap := by simpa using hmm
    subst hmm'
    rw [show Tryz.prog.cellsOf 69 = 6 from by kernel_rfl] at hx
    obtain ⟨f, hfs⟩ := Deep.choose_lt (α := St × List Nat) (p := fun i (q : St × List Nat) => W.cells? 0 (x.add (i * 6)) 6 = some q.1.cell ∧ q.1.Wf ∧ SlR W (.slice q.1.ka q.1.keep.length q.1.kc) (q.1.keep.map (.int .i64)) q.2) (fun i hi => by
      obtain ⟨cs', h1, h2⟩ := hx i hi
      obtain ⟨s, G, rfl, hw, hs⟩ := open_step h2
      exact ⟨(s, G), h1, hw, hs⟩)
    by_cases h00 : len = 0
    · subst h00
      exact ⟨[], [], ⟨some x, m, rfl, by simp, fun hp => by simp at hp⟩, by simp, by simp⟩
    obtain ⟨b, off, spot⟩ := x
    have hspot : spot = none := by
      have h1 := (hfs 0 (by omega)).1
      obtain ⟨_, _, hcell⟩ := World.cells?_some h1
      have := hcell 0 (by omega)
      simp [Addr.add, St.cell] at this
      exact World.cell?_spot this
    subst hspot
    refine ⟨(List.range len).map fun i => (f i).1, b :: (List.range len).flatMap fun i => (f i).2, ⟨some ⟨b, off, none⟩, m, by simp, ?_, fun _ => ⟨b, off, rfl, by simp, ?_⟩⟩, by simp; omega, ?_⟩
    · intro s hs
      obtain ⟨i, hi, rfl⟩ := List.mem_map.1 hs
      rw [List.mem_range] at hi
      refine (hfs i (by omega)).2.2.wider ?_
      intro k hk
      exact List.mem_cons_of_mem _ (List.mem_flatMap.2 ⟨i, List.mem_range.2 hi, hk⟩)
    · intro i hi j hj
      have hi' : i < len := by simpa using hi
      obtain ⟨_, hlen, hcell⟩ := World.cells?_some (hfs i (by omega)).1
      have := hcell j hj
      rw [Deep.add_add, show (⟨b, off, none⟩ : Addr).add (i * 6 + j) = ⟨b, off + (i * 6 + j), none⟩ from by unfold Addr.add; split <;> simp <;> omega] at this
      simpa using this
    · intro s hs
      obtain ⟨i, hi, rfl⟩ := List.mem_map.1 hs
      rw [List.mem_range] at hi
      exact (hfs i (by omega)).2.1
/-- the cells of a step at g, off -/
structure StAt (w : World) (g off : Nat) (s : St) (G : List Nat) : Prop where
  c0 : w.cell? ⟨g, off, none⟩ = some (.int .u8 s.what)
  c1 : w.cell? ⟨g, off + 1, none⟩ = some (.int .i64 s.half)
  c2 : w.cell? ⟨g, off + 2, none⟩ = some (.int .i64 s.age)
  c3 : w.cell? ⟨g, off + 3, none⟩ = some (.string ⟨s.s.toArray⟩)
  c4 : w.cell? ⟨g, off + 4, none⟩ = some (.int .i64 s.many)
  c5 : w.cell? ⟨g, off + 5, none⟩ = some (.slice s.ka s.keep.length s.kc)
  sl : SlR w (.slice s.ka s.keep.length s.kc) (s.keep.map (Value.int .i64)) G
/-- element k of the steps that came in -/
theorem StepsR.at {w : World} {a : Option Addr} {n cap : Nat} {l : List St} {G : List Nat} (h : StepsR w (.slice a n cap) l G) {k : Nat} (hk : k < l.length) :
    ∃ g off, a = some ⟨g, off, none⟩ ∧ StAt w g (off + k * 6) l[k] G := by
  obtain ⟨a', cap', hv, h1, h2⟩ := h
  obtain ⟨g, off, rfl, hg, hc⟩ := h2 (by omega)
  simp only [Value.slice.injEq] at hv
  exact ⟨g, off, hv.1, ⟨hc k hk 0 (by omega), by rw [Nat.add_assoc]; exact hc k hk 1 (by omega), by rw [Nat.add_assoc]; exact hc k hk 2 (by omega), by rw [Nat.add_assoc]; exact hc k hk 3 (by omega), by rw [Nat.add_assoc]; exact hc k hk 4 (by omega), by rw [Nat.add_assoc]; exact hc k hk 5 (by omega), h1 _ (List.getElem_mem hk)⟩⟩
theorem StepsR.len {w : World} {a : Option Addr} {n cap : Nat} {l : List St} {G : List Nat} (h : StepsR w (.slice a n cap) l G) : n = l.length := by
  obtain ⟨a', cap', hv, _, _⟩ := h
  simp only [Value.slice.injEq] at hv
  exact hv.2.1

end Go.Proofs.YtnlppcjfpmnahaaGreatDoor
