/- make([]byte, n), over what a call holds. -/
import Derived.Test.YtnlppcjfpmnahaaGreatDoorBytes
import Derived.OwnWalk
namespace Go.Proofs.YtnlppcjfpmnahaaGreatDoor
set_option linter.all false
open Go.RowKit

theorem info_u8 : (Tryz.prog.info? 5).map (fun i => (i.zero, i.size, i.bytes)) = some (some (.int .u8 0), 1, 1) := by kernel_rfl
theorem wpList_make_bytes {w0 w : World} {L : List Piece} {ops : Array Oper} {rest : List Oper} {o : Oper} {a : Act} {Q : Exit → Act → World → Prop} (hg : o.guard = none) (l : Operand)
    (hop : o.op = Op.makeSlice 57 l l) (n : Nat) (hl : a.eval l = .int .i64 (n : Int)) (hn : n ≤ 100000000) (O : Own w0 w L)
    (h : ∀ g w', Own w0 w' (bytes g (List.replicate n 0) :: L) → wpList Tryz.prog ops Q rest (a.put o.dst (.slice (some ⟨g, 0, none⟩) n n)) w') : wpList Tryz.prog ops Q (o :: rest) a w := by
  obtain ⟨i0, hi, hz0, hz1, hz2⟩ := info_parts info_u8
  refine wpList_make_full w hg l l 57 hop w.heap.size 5 i0 (.int .u8 0) 1 Tryz.underlying57 hi hz0 hz1 .i64 .i64 n n n hl hl rfl rfl (by rw [hz2]; omega) (by unfold maxLen; omega) (Nat.le_refl _) ?_
  intro w' row gr
  refine h _ w' ?_
  rcases row.2 with ⟨hv, _⟩ | ⟨g, cap, cur, hv, hb, hh, hnc, hcm, hcs, htake⟩
  · cases hv
  simp only [Value.slice.injEq, Option.some.injEq, Addr.mk.injEq] at hv
  obtain ⟨⟨rfl, _⟩, _, rfl⟩ := hv
  refine O.new ((Chg.refl [] w).grown gr (fun k hk _ => by cases hk)) (bytes w.heap.size (List.replicate n 0)) (F := [w.heap.size]) ⟨⟨cur, (0, 0), hh, fun j hj => ?_, fun j hj => by simp⟩, O.size, rfl⟩ (by simp)
  have hj' : j < n := by simpa using hj
  have h1 : cur.toList[j]? = some (.int .u8 0) := by
    have : (cur.toList.take (n * 1))[j]? = cur.toList[j]? := by rw [List.getElem?_take]; simp [hj']
    rw [← this, htake]
    simp [madeCells, hj', Value.cells]
    rw [Nat.mod_one]; rfl
  simpa using h1
end Go.Proofs.YtnlppcjfpmnahaaGreatDoor
