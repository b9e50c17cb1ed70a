/- []int of the call's own; copy of a text of whatever length that fits. -/
import Derived.Test.YtnlppcjfpmnahaaGreatDoorPack
namespace Go.Proofs.YtnlppcjfpmnahaaGreatDoor
set_option linter.all false
open Go.RowKit

/-- a slice of ints of the call's own -/
def nums (v : Value) (zs : List Int) : Piece where
  holds B w F := w.ownsRow B 3 1 v zs.length (zs.map (Value.int .i64)) ∧ F = v.ownBlock.toList
  keep := by
    rintro B w w' F S ⟨h1, rfl⟩ hc hS
    exact ⟨hc.row h1 (fun k hk => hS k (by simp [hk])), rfl⟩
  lt := by
    rintro B w F ⟨h1, rfl⟩ k hk
    exact h1.lt k (by simpa using hk)
theorem Own.numsRow {w0 w : World} {L : List Piece} {v : Value} {zs : List Int} (h : Own w0 w (nums v zs :: L)) : w.ownsRow w0.heap.size 3 1 v zs.length (zs.map (Value.int .i64)) := by
  obtain ⟨F, h, _⟩ := h.head; exact h
theorem Own.newNums {w0 w w' : World} {L : List Piece} (h : Own w0 w L) (k : Chg [] w w') {v : Value} {zs : List Int} (hv : w'.ownsRow w.heap.size 3 1 v zs.length (zs.map (Value.int .i64))) : Own w0 w' (nums v zs :: L) :=
  h.new k (nums v zs) ⟨ownsRow_mono hv h.size, rfl⟩ (fun i hi => (hv.lt i (by simpa using hi)).1)
theorem Own.numsShape {w0 w : World} {L : List Piece} {v : Value} {zs : List Int} (h : Own w0 w (nums v zs :: L)) : ∃ a cap, v = .slice a zs.length cap := by
  rcases row_shape' h.numsRow with rfl | ⟨g, cap, rfl⟩
  · have := h.numsRow.2
    rcases this with ⟨_, hn⟩ | ⟨g, cap, cur, hv, _⟩
    · exact ⟨none, 0, by rw [hn]⟩
    · cases hv
  · exact ⟨_, _, rfl⟩
theorem Own.numsAt {w0 w : World} {L : List Piece} {a : Option Addr} {n cap : Nat} {zs : List Int} (h : Own w0 w (nums (.slice a n cap) zs :: L)) (k : Nat) (hk : k < zs.length) : ∃ g, a = some ⟨g, 0, none⟩ ∧ w.cell? ⟨g, k, none⟩ = some (.int .i64 zs[k]) ∧ w.frozen? ⟨g, k, none⟩ = false := by
  obtain ⟨a', c, hv⟩ := h.numsShape
  simp only [Value.slice.injEq] at hv
  obtain ⟨-, rfl, -⟩ := hv
  have r := h.numsRow
  rcases row_shape' r with e | ⟨g, cap', e⟩
  · simp only [Value.slice.injEq] at e
    omega
  · simp only [Value.slice.injEq] at e
    obtain ⟨rfl, -, -⟩ := e
    exact ⟨g, rfl, (r.cellAt k (by simpa using hk)).trans (by simp [hk]), r.frozenAt k⟩
theorem run_copy_fitO {w0 w : World} {L : List Piece} {g cap : Nat} {zs l : List UInt8} (O : Own w0 w (bytes g zs :: L)) (hl : l.length ≤ zs.length) (ty : TypeId) :
    ∃ w', (Builtin.copy_ #[57, 9] ty #[.slice (some ⟨g, 0, none⟩) zs.length cap, .string ⟨l.toArray⟩]).run Tryz.prog w = .ok (goInt l.length) w' ∧ Own w0 w' (bytes g (l ++ zs.drop l.length) :: L) := by
  have hsz : (⟨l.toArray⟩ : ByteArray).size = l.length := by simp [ByteArray.size]
  have h := run_copy_string (P := Tryz.prog) w 57 9 ty 5 g 0 zs.length cap ⟨l.toArray⟩ Tryz.underlying57 sizeOf_u8 (by rw [hsz]; omega)
    (fun j hj => by rw [Nat.zero_add, (O.byteCell j (by rw [hsz] at hj; omega)).1]; rfl) (fun j hj => by rw [Nat.zero_add]; exact (O.byteCell j (by rw [hsz] at hj; omega)).2)
  rw [hsz] at h
  refine ⟨_, h, ?_⟩
  have := O.setBytes l 0
  rw [setsL_eq _ _ _ (by omega)] at this
  simpa using this
theorem wpList_copy_fitO {w0 w : World} {L : List Piece} {ops : Array Oper} {rest : List Oper} {o : Oper} {a : Act} {Q : Exit → Act → World → Prop} (hgd : o.guard = none) (d s : Operand)
    (ho : o.op = .call { callee := .builtin .copy, args := #[d, s], argTypes := #[57, 9] }) (g n cap : Nat) (zs l : List UInt8) (O : Own w0 w (bytes g zs :: L)) (hd : a.eval d = .slice (some ⟨g, 0, none⟩) n cap) (hs : a.eval s = .string ⟨l.toArray⟩) (hn : n = zs.length) (hl : l.length ≤ zs.length)
    (h : ∀ w', Own w0 w' (bytes g (l ++ zs.drop l.length) :: L) → wpList Tryz.prog ops Q rest (a.put o.dst (goInt l.length)) w') : wpList Tryz.prog ops Q (o :: rest) a w := by
  subst hn
  obtain ⟨w', hr, O'⟩ := run_copy_fitO (cap := cap) O hl o.type
  refine wpList_plain hgd fun K hK => ?_
  unfold Oper.wp
  simp [execOp, ho, resolve, invoke, builtin, hd, hs, hr, Result.andThen]
  exact hK _ _ (h w' O')
end Go.Proofs.YtnlppcjfpmnahaaGreatDoor
