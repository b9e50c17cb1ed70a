/- slices of strings that are read; mailroomref01.Same. -/
import Derived.Test.YtnlppcjfpmnahaaGreatDoorOwn
import Derived.BigQuiet
import Derived.Deep.QuietTactic
import Derived.Lib.Hide
import Derived.Handy
namespace Go.Proofs.YtnlppcjfpmnahaaGreatDoor
set_option linter.all false
open Go.RowKit

/-- the value v is a slice of strings that reads ss; G: the blocks on which that leans -/
def StrsR (w : World) (v : Value) (ss : List (List UInt8)) (G : List Nat) : Prop :=
  ∃ a cap, v = .slice a ss.length cap ∧ (0 < ss.length → ∃ g off, a = some ⟨g, off, none⟩ ∧ g ∈ G ∧ ∀ i (h : i < ss.length), w.cell? ⟨g, off + i, none⟩ = some (.string ⟨ss[i].toArray⟩))
theorem StrsR.keep {w w' : World} {v : Value} {ss : List (List UInt8)} {G S : List Nat} (h : StrsR w v ss G) (hc : Chg S w w') (hS : ∀ k, k ∈ G → k ∉ S) : StrsR w' v ss G := by
  obtain ⟨a, cap, rfl, hr⟩ := h
  refine ⟨a, cap, rfl, fun hp => ?_⟩
  obtain ⟨g, off, rfl, hg, hcell⟩ := hr hp
  exact ⟨g, off, rfl, hg, fun i hi => hc.cell (hcell i hi) (hS g hg)⟩
theorem StrsR.weak {w : World} {v : Value} {ss : List (List UInt8)} {G H : List Nat} (h : StrsR w v ss G) (hS : ∀ k, k ∈ G → k ∈ H) : StrsR w v ss H := by
  obtain ⟨a, cap, rfl, hr⟩ := h
  refine ⟨a, cap, rfl, fun hp => ?_⟩
  obtain ⟨g, off, rfl, hg, hcell⟩ := hr hp
  exact ⟨g, off, rfl, hS g hg, hcell⟩
theorem StrsR.drewN {w : World} {v : Value} {ss : List (List UInt8)} {G : List Nat} (h : StrsR w v ss G) (n : Nat) : StrsR (w.drewN n) v ss G := h
theorem strsR_nil (w : World) (G : List Nat) : StrsR w (.slice none 0 0) [] G := ⟨none, 0, rfl, fun h => by simp at h⟩
theorem strsR_of_row {w : World} {B : Nat} {v : Value} {ss : List (List UInt8)} (h : w.ownsRow B 9 1 v ss.length (ss.map str)) : StrsR w v ss v.ownBlock.toList := by
  rcases h.2 with ⟨rfl, hn⟩ | ⟨g, cap, cur, rfl, hb, hg, hnc, hcm, hcs, htake⟩
  · exact ⟨none, 0, by rw [hn], fun hp => by omega⟩
  · refine ⟨_, cap, rfl, fun _ => ⟨g, 0, rfl, by simp [Value.ownBlock], fun i hi => ?_⟩⟩
    have hh := h.cells (g := g) rfl i (str ss[i]) (by simp [hi])
    rw [show (⟨g, 0, none⟩ : Addr).add i = ⟨g, i, none⟩ from by unfold Addr.add; split <;> simp_all] at hh
    simpa [str] using hh
/-- a slice written out -/
theorem strsR_lit (w : World) (ss : List (List UInt8)) (t : TypeId) : StrsR (w.alloc (.cells (ss.map str).toArray t)) (.slice (some ⟨w.heap.size, 0, none⟩) ss.length ss.length) ss [w.heap.size] := by
  refine ⟨_, _, rfl, fun _ => ⟨w.heap.size, 0, rfl, by simp, fun i hi => ?_⟩⟩
  rw [cell_at (heap_alloc_new w _)]
  simp [hi, str]

theorem strsR_lt {w : World} {g n cap : Nat} {ss : List (List UInt8)} {G : List Nat} (h : StrsR w (.slice (some ⟨g, 0, none⟩) (n + 1) cap) ss G) : g < w.heap.size := by
  obtain ⟨a, c, hv, hr⟩ := h
  simp only [Value.slice.injEq] at hv
  obtain ⟨g', off, he, _, hc⟩ := hr (by omega)
  rw [he] at hv
  simp only [Option.some.injEq, Addr.mk.injEq] at hv
  obtain ⟨⟨rfl, _⟩, _⟩ := hv
  exact World.block_lt_of_cell? w _ (hc 0 (by omega))
theorem StrsR.read {w : World} {a : Option Addr} {n cap : Nat} {ss : List (List UInt8)} {G : List Nat} (h : StrsR w (.slice a n cap) ss G) {k : Nat} (hk : k < ss.length) :
    ∃ g off, a = some ⟨g, off, none⟩ ∧ w.cell? ⟨g, off + k, none⟩ = some (.string ⟨ss[k].toArray⟩) := by
  obtain ⟨a', cap', hv, hr⟩ := h
  obtain ⟨g, off, rfl, _, hc⟩ := hr (by omega)
  simp only [Value.slice.injEq] at hv
  exact ⟨g, off, hv.1, hc k hk⟩
theorem strsR_at {w : World} {g : Nat} {cs : Array Value} {t : TypeId} {f : Nat × Nat} (ss : List (List UInt8)) (hw : w.heap[g]? = some (.cells cs t f)) (hc : cs = (ss.map str).toArray) (n : Nat) (hn : n = ss.length) : StrsR w (.slice (some ⟨g, 0, none⟩) n n) ss [g] := by
  subst hn hc
  refine ⟨_, _, rfl, fun _ => ⟨g, 0, rfl, by simp, fun i hi => ?_⟩⟩
  rw [cell_at hw]
  simp [hi, str]

theorem take_eq_snoc {α : Type} {a b : List α} {k : Nat} (h1 : k < a.length) (h2 : k < b.length) (h : a.take k = b.take k) (he : a[k] = b[k]) : a.take (k + 1) = b.take (k + 1) := by
  rw [List.take_succ_eq_append_getElem h1, List.take_succ_eq_append_getElem h2, h, he]

theorem ret_tup_bool {a b : Bool} (h : a = b) : Ending.returned (.bool a) = .returned (.bool b) := by rw [h]

end Go.Proofs.YtnlppcjfpmnahaaGreatDoor
