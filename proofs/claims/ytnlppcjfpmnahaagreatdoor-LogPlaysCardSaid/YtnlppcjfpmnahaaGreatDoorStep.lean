/- append of one string, as one step of a region that draws. -/
import Derived.Test.YtnlppcjfpmnahaaGreatDoorOwnIn
import Derived.Deep.RegionHeld3
namespace Go.Proofs.YtnlppcjfpmnahaaGreatDoor
set_option linter.all false
open Go.RowKit

theorem run_append_strO {w0 w : World} {L : List Piece} {v : Value} {ss : List (List UInt8)} (O : Own w0 w (strs v ss :: L)) (l : List UInt8) (hlen : ss.length ≤ 1000000000) (ty : TypeId) :
    ∃ v' w', (Builtin.append_ #[23, 23] ty #[v, .slice (some ⟨w.heap.size, 0, none⟩) 1 1]).run Tryz.prog (w.alloc (.cells #[.string ⟨l.toArray⟩] 9)) = .ok v' w' ∧ Own w0 w' (strs v' (ss ++ [l]) :: L) := by
  obtain ⟨U, ⟨row, rfl⟩, q⟩ := O.open
  obtain ⟨i0, hi, hz0, hz1, hz2⟩ := info_parts info_str
  have hc : (w.alloc (.cells #[.string ⟨l.toArray⟩] 9)).cell? ⟨w.heap.size, 0, none⟩ = some (.string ⟨l.toArray⟩) := by rw [cell_at (heap_alloc_new _ _)]; rfl
  obtain ⟨v', w', hr, r1, r2, _, r3⟩ := run_append_new (P := Tryz.prog) (w.alloc (.cells #[.string ⟨l.toArray⟩] 9)) w0.heap.size 23 ty 9 i0 (.string .empty) 1 16 Tryz.underlying23 hi hz0 hz1 hz2 rfl (by decide) v ss.length _ (row.alloc _) ⟨w.heap.size, 0, none⟩ 1 1 [str l] rfl
    (by intro j u hu
        match j, hu with
        | 0, hu => simp at hu; subst hu; simpa [Addr.add, str] using hc) (by simp [str, Value.oneCell']) (by unfold maxLen; omega) (by omega) (Nat.le_trans O.size (by simp))
  refine ⟨v', w', hr, q w' (strs v' (ss ++ [l])) _ ⟨by simpa using r1, rfl⟩ (((Chg.refl _ w).alloc _).grown r2 (fun k hk _ => by simp [hk])) (fun i hi => ?_)⟩
  rcases r3 i (by simpa using hi) with h4 | h4
  · exact .inl (by simp [h4])
  · exact .inr (by simp at h4; omega)
theorem step_appendO {ops : Array Oper} {o : Oper} {a : Act} {w w' : World} {K : Act → World → Prop} {Q : Exit → Act → World → Prop} {E : Prop} {d s : Operand} {dT sT : TypeId}
    (hg : o.guard = none) (hop : o.op = Op.call { callee := Callee.builtin Builtin.append, args := #[d, s], argTypes := #[dT, sT] }) {dv sv v' : Value} (hd : a.eval d = dv) (hs : a.eval s = sv)
    (hr : (Builtin.append_ #[dT, sT] o.type #[dv, sv]).run Tryz.prog w = .ok v' w') (hK : K (a.put o.dst v') w') :
    if Region.wanted o (yielded ops a.tmps) = true then Oper.wp Tryz.prog o a w K Q else E := by
  have hw : Region.wanted o (yielded ops a.tmps) = true := by simp [Region.wanted, hg]
  rw [if_pos hw]
  unfold Oper.wp
  simp [execOp, hop, resolve, invoke, builtin, hd, hs, hr, Result.andThen]
  exact hK
end Go.Proofs.YtnlppcjfpmnahaaGreatDoor
