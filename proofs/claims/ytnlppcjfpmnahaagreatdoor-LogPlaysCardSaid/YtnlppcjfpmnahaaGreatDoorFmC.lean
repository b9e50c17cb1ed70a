/- frame: a copy of a longer text into an array; ends. -/
import Derived.Test.YtnlppcjfpmnahaaGreatDoorFmB
import Derived.Lib.LazyBuf
import Derived.StillTailTactics
import Derived.Deep.DeepCutAuto
namespace Go.Proofs.YtnlppcjfpmnahaaGreatDoor
set_option linter.all false
open Go.RowKit

theorem Own.setU8 {w0 : World} {L : List Piece} {b : Nat} {ty : TypeId} : ∀ (cs : List UInt8) {w : World} {l : List UInt8} (o : Nat), Own w0 w (box b (U8 l) ty :: L) → Own w0 (w.setCells b o (cs.map fun x => Value.int .u8 (x.toNat : Int))) (box b (U8 (setsL l o cs)) ty :: L)
  | [], w, l, o, h => h
  | c :: r, w, l, o, h => by
    have h1 := h.set o (.int .u8 (c.toNat : Int))
    rw [U8_set] at h1
    exact Own.setU8 r (o + 1) h1
/-- 'copy(dst, s)', s a text that is at least as long as dst, dst an array of the call's own -/
theorem run_copy_longO {w0 w : World} {L : List Piece} {b : Nat} {l : List UInt8} {ty : TypeId} (O : Own w0 w (box b (U8 l) ty :: L)) (t : List UInt8) (ht : l.length ≤ t.length) (cap : Nat) (ty2 : TypeId) :
    ∃ w', (Builtin.copy_ #[57, 9] ty2 #[.slice (some ⟨b, 0, none⟩) l.length cap, .string ⟨t.toArray⟩]).run Tryz.prog w = .ok (goInt l.length) w' ∧ Own w0 w' (box b (U8 (t.take l.length)) ty :: L) := by
  have hsz : (⟨t.toArray⟩ : ByteArray).size = t.length := by simp [ByteArray.size]
  have hmin : Nat.min (⟨t.toArray⟩ : ByteArray).size l.length = l.length := by rw [hsz]; exact Nat.min_eq_right ht
  have hl : ((t.take l.length).map fun x => Value.int .u8 (x.toNat : Int)).length = l.length := by simp; omega
  have hst := run_storeCells_cells (P := Tryz.prog) b 0 ((t.take l.length).map fun x => Value.int .u8 (x.toNat : Int)) 0 w
    (by rw [hl]; intro j hj; rw [Nat.zero_add, O.cell]; simp [U8, hj]) (by rw [hl]; intro j hj; exact O.free _) (by
    intro v hv
    obtain ⟨x, _, rfl⟩ := List.mem_map.1 hv
    rfl)
  refine ⟨w.setCells b 0 ((t.take l.length).map fun x => Value.int .u8 (x.toNat : Int)), ?_, ?_⟩
  · simp [Builtin.copy_, run_underlying Tryz.underlying57, Builtin.lenOf, Builtin.firstCells, sizeOf_u8, hmin]
    rw [← List.map_take, hst]
    rfl
  · have := O.setU8 (t.take l.length) 0
    rw [setsL_all (by simp; omega)] at this
    exact this
theorem wpList_copy_longO {w0 w : World} {L : List Piece} {ops : Array Oper} {rest : List Oper} {o : Oper} {a : Act} {Q : Exit → Act → World → Prop} (hgd : o.guard = none) (d s : Operand)
    (ho : o.op = .call { callee := .builtin .copy, args := #[d, s], argTypes := #[57, 9] }) {b : Nat} {l : List UInt8} {ty : TypeId} (O : Own w0 w (box b (U8 l) ty :: L)) (t : List UInt8) (ht : l.length ≤ t.length) (n cap : Nat) (hn : n = l.length)
    (hd : a.eval d = .slice (some ⟨b, 0, none⟩) n cap) (hs : a.eval s = .string ⟨t.toArray⟩)
    (h : ∀ w', Own w0 w' (box b (U8 (t.take n)) ty :: L) → wpList Tryz.prog ops Q rest (a.put o.dst (goInt n)) w') : wpList Tryz.prog ops Q (o :: rest) a w := by
  subst hn
  obtain ⟨w', hr, O'⟩ := run_copy_longO O t ht cap o.type
  refine wpList_plain hgd fun K hK => ?_
  unfold Oper.wp
  simp [execOp, ho, resolve, invoke, builtin, hd, hs, hr, Result.andThen]
  exact hK _ _ (h w' O')
end Go.Proofs.YtnlppcjfpmnahaaGreatDoor
