/- a mail that came in, opened. -/
import Derived.Test.YtlmifdkhdcbniaaDoorFrame
import Derived.Test.YtlmifdkhdcbniaaDoorAdU
import Derived.Deep.Slices
namespace Go.Proofs.YtlmifdkhdcbniaaDoor
set_option linter.all false
open Go.ChangeShapes Go.WideShapes Go.ChangeAt Go.RowKit

theorem ba_back (s : ByteArray) : (⟨s.data.toList.toArray⟩ : ByteArray) = s := by cases s; simp
set_option maxRecDepth 100000 in
theorem open_rcpt {H : Type} {enc : TypeId × Value → H} {W : World} {fuel : Nat} {cs : List Value} {x : DataW H × List MemPlace}
    (h : DataW.trod enc Tryd.prog W 0 (fun _ => true) true fuel 43 cs = some x) : ∃ r : List UInt8 × Bool, cs = [.string ⟨r.1.toArray⟩, .bool r.2] := by
  obtain ⟨xs, k, hk, hxy, hcl, hxl, hf⟩ := DataW.trod_struct Tryd.underlying43 h
  have g0 := hf 0 _ rfl
  have g1 := hf 1 _ rfl
  rw [show Tryd.prog.cellsOf 43 = 2 from by kernel_rfl] at hcl
  match xs, hxl, cs, hcl with
  | [y0, y1], _, [c0, c1], _ =>
  have cu : Tryd.prog.cellsOf 9 = 1 := by kernel_rfl
  have ci : Tryd.prog.cellsOf 4 = 1 := by kernel_rfl
  simp [cu, ci] at g0 g1
  obtain ⟨s, e0, _⟩ := DataW.trod_string Tryd.underlying9 g0
  obtain ⟨b, e1, _⟩ := DataW.trod_bool Tryd.underlying4 g1
  simp only [List.cons.injEq, and_true] at e0 e1
  subst e0 e1
  exact ⟨(s.data.toList, b), by rw [ba_back]⟩
set_option maxRecDepth 100000 in
theorem open_rcpts {H : Type} {enc : TypeId × Value → H} {W : World} {fuel : Nat} {v : Value} {x : DataW H × List MemPlace}
    (hf : DataW.trod enc Tryd.prog W 0 (fun _ => true) true fuel 37 [v] = some x) :
    ∃ (ra : Option Addr) (rcap : Nat) (rc : List (List UInt8 × Bool)) (G : List Nat), v = .slice ra rc.length rcap ∧ RcR W ra rc G ∧ rc.length ≤ rcap ∧ rc.length ≤ maxLen ∧ Kind v := by
  rcases Deep.open_slice Tryd.underlying37 hf with ⟨hcs, _⟩ | ⟨y, l, c, m, n, D, Pl, hcs, _, hl, hm, hmm, _, hx⟩
  · simp at hcs
    subst hcs
    exact ⟨none, 0, [], [], rfl, fun h => by simp at h, by simp, by simp, .inl rfl⟩
  · simp at hcs
    subst hcs
    have hmm' : m = c := by simpa using hmm
    subst hmm'
    rw [show Tryd.prog.cellsOf 43 = 2 from by kernel_rfl] at hx
    obtain ⟨f, hfs⟩ := Deep.choose_lt (α := List UInt8 × Bool) (p := fun i (q : List UInt8 × Bool) => W.cells? 0 (y.add (i * 2)) 2 = some [.string ⟨q.1.toArray⟩, .bool q.2]) (fun i hi => by
      obtain ⟨cs', h1, h2⟩ := hx i hi
      obtain ⟨r, rfl⟩ := open_rcpt h2
      exact ⟨r, h1⟩)
    by_cases h00 : l = 0
    · subst h00
      exact ⟨some y, m, [], [], rfl, fun h => by simp at h, by simp, by simp, .inr ⟨_, _, _, rfl⟩⟩
    obtain ⟨b, off, spot⟩ := y
    have hspot : spot = none := by
      have h1 := hfs 0 (by omega)
      obtain ⟨_, _, hcell⟩ := World.cells?_some h1
      have := hcell 0 (by omega)
      simp [Addr.add] at this
      exact World.cell?_spot this
    subst hspot
    refine ⟨some ⟨b, off, none⟩, m, (List.range l).map f, [b], by simp, fun _ => ⟨b, off, rfl, by simp, fun i hi => ?_⟩, by simp; omega, by simp; omega, .inr ⟨_, _, _, rfl⟩⟩
    have hi' : i < l := by simpa using hi
    obtain ⟨_, hlen, hcell⟩ := World.cells?_some (hfs i (by omega))
    have h0 := hcell 0 (by omega)
    have h1 := hcell 1 (by omega)
    rw [Deep.add_add, show (⟨b, off, none⟩ : Addr).add (i * 2 + 0) = ⟨b, off + i * 2, none⟩ from by unfold Addr.add; split <;> simp <;> omega] at h0
    rw [Deep.add_add, show (⟨b, off, none⟩ : Addr).add (i * 2 + 1) = ⟨b, off + i * 2 + 1, none⟩ from by unfold Addr.add; split <;> simp <;> omega] at h1
    simp only [List.getElem_map, List.getElem_range]
    exact ⟨by simpa using h0, by simpa using h1⟩
/-- what is known of a mail that came in -/
structure MailIn (W : World) (v : Value) (m : Ml) (G : List Nat) : Prop where
  val : v = m.val
  rc : RcR W m.ra m.rc G
  cap : m.rc.length ≤ m.rcap
  max : m.rc.length ≤ maxLen
  kind : Kind (.slice m.ra m.rc.length m.rcap)
set_option maxRecDepth 100000 in
theorem open_api_Mail_arg {H : Type} {enc : TypeId × Value → H} {W : World} {base : Nat} {v : Value} {d : DataW H} {p : List MemPlace} (hv : Value.okWide Tryd.prog W .any base 39 v)
    (h : DataW.Trod enc Tryd.prog W 0 (fun _ => true) true 39 v d p) : ∃ (m : Ml) (G : List Nat), MailIn W v m G := by
  obtain ⟨cs, rfl, hsz⟩ := okWide_struct Tryd.underlying39 hv
  obtain ⟨fuel, hf⟩ := h
  have hf : DataW.trod enc Tryd.prog W 0 (fun _ => true) true fuel 39 cs.toList = some (d, p) := by simpa [Value.cells] using hf
  obtain ⟨xs, k, hk, hxy, hcl, hxl, hf⟩ := DataW.trod_struct Tryd.underlying39 hf
  have g0 := hf 0 _ rfl
  have g1 := hf 1 _ rfl
  have g2 := hf 2 _ rfl
  have g3 := hf 3 _ rfl
  have g4 := hf 4 _ rfl
  rw [show Tryd.prog.cellsOf 39 = 5 from by kernel_rfl] at hcl
  obtain ⟨cl, rfl⟩ : ∃ l : List Value, cs = l.toArray := ⟨cs.toList, by simp⟩
  simp only [List.toList_toArray] at hcl g0 g1 g2 g3 g4
  match xs, hxl, cl, hcl with
  | [y0, y1, y2, y3, y4], _, [c0, c1, c2, c3, c4], _ =>
  have cu : Tryd.prog.cellsOf 9 = 1 := by kernel_rfl
  have ci : Tryd.prog.cellsOf 4 = 1 := by kernel_rfl
  have cr : Tryd.prog.cellsOf 37 = 1 := by kernel_rfl
  simp [cu, ci, cr] at g0 g1 g2 g3 g4
  obtain ⟨s0, e0, _⟩ := DataW.trod_string Tryd.underlying9 g0
  obtain ⟨ra, rcap, rc, G, e1, r1, r2, r3, r4⟩ := open_rcpts g1
  obtain ⟨b, e2, _⟩ := DataW.trod_bool Tryd.underlying4 g2
  obtain ⟨s3, e3, _⟩ := DataW.trod_string Tryd.underlying9 g3
  obtain ⟨s4, e4, _⟩ := DataW.trod_string Tryd.underlying9 g4
  simp only [List.cons.injEq, and_true] at e0 e2 e3 e4
  subst e0 e1 e2 e3 e4
  refine ⟨⟨s0.data.toList, ra, rcap, rc, b, s3.data.toList, s4.data.toList⟩, G, ?_, r1, r2, r3, r4⟩
  simp only [Ml.val, Ml.cells, ba_back]
end Go.Proofs.YtlmifdkhdcbniaaDoor
