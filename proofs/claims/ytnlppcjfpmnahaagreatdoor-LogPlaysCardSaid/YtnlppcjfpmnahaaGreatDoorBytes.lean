/- Bytes of the call's own: []byte of a string, and back. -/
import Derived.Test.YtnlppcjfpmnahaaGreatDoorHold
import Derived.Laws.IdiomStrings
namespace Go.Proofs.YtnlppcjfpmnahaaGreatDoor
set_option linter.all false
open Go.RowKit

/-- a block whose first cells are the bytes l -/
def bytes (g : Nat) (l : List UInt8) : Piece where
  holds B w F := (∃ (C : Array Value) (fr : Nat × Nat), w.heap[g]? = some (.cells C 5 fr) ∧ (∀ j (h : j < l.length), C[j]? = some (.int .u8 (l[j].toNat : Int))) ∧ (∀ j, j < l.length → ¬ (fr.1 ≤ j ∧ j < fr.2))) ∧ B ≤ g ∧ F = [g]
  keep := by
    rintro B w w' F S ⟨⟨C, fr, h1, h2, h3⟩, hb, rfl⟩ hc hS
    exact ⟨⟨C, fr, hc.obj h1 (hS g (by simp)), h2, h3⟩, hb, rfl⟩
  lt := by
    rintro B w F ⟨⟨C, fr, h1, h2, h3⟩, hb, rfl⟩ k hk
    simp at hk; subst hk
    exact ⟨hb, lt_of_block h1⟩
theorem Own.byteCell {w0 w : World} {L : List Piece} {g : Nat} {l : List UInt8} (h : Own w0 w (bytes g l :: L)) (k : Nat) (hk : k < l.length) : w.cell? ⟨g, k, none⟩ = some (.int .u8 (l[k].toNat : Int)) ∧ w.frozen? ⟨g, k, none⟩ = false := by
  obtain ⟨F, ⟨⟨C, fr, h1, h2, h3⟩, _⟩⟩ := h.head
  refine ⟨by rw [cell_at h1]; exact h2 k hk, ?_⟩
  have := h3 k hk
  simp [World.frozen?, h1]
  omega
theorem Own.setByte {w0 w : World} {L : List Piece} {g : Nat} {l : List UInt8} (h : Own w0 w (bytes g l :: L)) (k : Nat) (c : UInt8) : Own w0 (w.setCell ⟨g, k, none⟩ (.int .u8 (c.toNat : Int))) (bytes g (l.set k c) :: L) := by
  obtain ⟨F, ⟨⟨C, fr, h1, h2, h3⟩, hb, rfl⟩, q⟩ := h.open
  refine q _ (bytes g (l.set k c)) [g] ⟨⟨_, fr, set_cells h1 k _, fun j hj => ?_, fun j hj => h3 j (by simpa using hj)⟩, hb, rfl⟩ ((Chg.refl _ _).setB (by simp) _ _) (fun i hi => .inl hi)
  have hj' : j < l.length := by simpa using hj
  have hc := h2 j hj'
  have hlt : j < C.size := by
    rcases Nat.lt_or_ge j C.size with h' | h'
    · exact h'
    · rw [Array.getElem?_eq_none h'] at hc; cases hc
  by_cases e : k = j
  · subst e
    simp [hlt]
  · rw [Array.getElem?_setIfInBounds_ne e, hc]
    simp [List.getElem_set, e]
theorem Own.toBytes {w0 w : World} {L : List Piece} (h : Own w0 w L) (l : List UInt8) : ∃ g cap W1, (convert 9 57 (.string ⟨l.toArray⟩)).run Tryz.prog w = .ok (.slice (some ⟨g, 0, none⟩) l.length cap) W1 ∧ Own w0 W1 (bytes g l :: L) := by
  have hr := run_bytes_of_string (P := Tryz.prog) w 9 57 5 ⟨l.toArray⟩ Tryz.underlying9 Tryz.underlying57 Tryz.underlying5
  have hsz : (⟨l.toArray⟩ : ByteArray).size = l.length := by simp [ByteArray.size]
  refine ⟨_, _, _, hr.trans (by rw [hsz]), ?_⟩
  refine h.new (((Chg.refl [] w).drew).alloc _) (bytes w.heap.size l) (F := [w.heap.size]) ⟨⟨_, _, heap_alloc_new w.drew _, fun j hj => ?_, fun j hj => ?_⟩, h.size, rfl⟩ (by simp)
  · rw [bytesRow_at _ _ j (by simpa using hj)]; simp
  · have hl : ∀ c, l.length ≤ (bytesRow ⟨l.toArray⟩ c).size := by intro c; unfold bytesRow; simp
    have h1 := hl (grownCap w l.length 0 5)
    have h2 := hl (grownCap w (⟨l.toArray⟩ : ByteArray).size 0 5)
    omega
theorem Own.fromBytes {w0 w : World} {L : List Piece} {g : Nat} {l : List UInt8} (h : Own w0 w (bytes g l :: L)) (cap : Nat) : (convert 57 9 (.slice (some ⟨g, 0, none⟩) l.length cap)).run Tryz.prog w = .ok (.string ⟨l.toArray⟩) w := by
  refine run_convert_bytes_back (P := Tryz.prog) w 57 9 5 ⟨g, 0, none⟩ cap l Tryz.underlying57 Tryz.underlying5 Tryz.underlying9 (fun j hj => ?_)
  rw [show (⟨g, 0, none⟩ : Addr).add j = ⟨g, j, none⟩ from by unfold Addr.add; split <;> simp_all]
  exact (h.byteCell j hj).1
end Go.Proofs.YtnlppcjfpmnahaaGreatDoor
