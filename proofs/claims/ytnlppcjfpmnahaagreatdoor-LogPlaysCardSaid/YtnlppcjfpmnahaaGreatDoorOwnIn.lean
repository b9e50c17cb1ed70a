/- append of one string, inside a fence. -/
import Derived.Test.YtnlppcjfpmnahaaGreatDoorRange
namespace Go.Proofs.YtnlppcjfpmnahaaGreatDoor
set_option linter.all false
open Go.RowKit

theorem wpListIn_append_strO {F : Fence} {n : Nat} {w0 w : World} {L : List Piece} {ops : Array Oper} {rest : List Oper} {o : Oper} {a : Act} {Q : Exit → Act → World → Prop} (hgd : o.guard = none) (s x : Operand)
    (ho : o.op = .call { callee := .builtin .append, args := #[s, x], argTypes := #[23, 23] })
    (v : Value) (ss : List (List UInt8)) (l : List UInt8) (O : Own w0 w (strs v ss :: L)) (hs : a.eval s = v)
    (hx : a.eval x = .slice (some ⟨w.heap.size, 0, none⟩) 1 1) (hlen : ss.length ≤ 1000000000)
    (h : ∀ v' w', Own w0 w' (strs v' (ss ++ [l]) :: L) → wpListIn F n Tryz.prog ops Q rest (a.put o.dst v') w') : wpListIn F n Tryz.prog ops Q (o :: rest) a (w.alloc (.cells #[.string ⟨l.toArray⟩] 9)) := by
  obtain ⟨U, ⟨row, rfl⟩, q⟩ := O.open
  obtain ⟨i0, hi, hz0, hz1, hz2⟩ := info_parts info_str
  have hc : (w.alloc (.cells #[.string ⟨l.toArray⟩] 9)).cell? ⟨w.heap.size, 0, none⟩ = some (.string ⟨l.toArray⟩) := by rw [cell_at (heap_alloc_new _ _)]; rfl
  obtain ⟨v', w', hr, r1, r2, _, r3⟩ := run_append_new (P := Tryz.prog) (w.alloc (.cells #[.string ⟨l.toArray⟩] 9)) w0.heap.size 23 o.type 9 i0 (.string .empty) 1 16 Tryz.underlying23 hi hz0 hz1 hz2 rfl (by decide) v ss.length _ (row.alloc _) ⟨w.heap.size, 0, none⟩ 1 1 [str l] rfl
    (by intro j u hu
        match j, hu with
        | 0, hu => simp at hu; subst hu; simpa [Addr.add, str] using hc) (by simp [str, Value.oneCell']) (by unfold maxLen; omega) (by omega) (Nat.le_trans O.size (by simp))
  refine wpListIn_plain hgd fun K hK' => ?_
  unfold Oper.wpIn
  refine ⟨?_, ?_⟩
  · simp [Oper.about, ho, resolve, Target.leads, Sem.run_pure]
  · rw [Oper.semAt_plain F _ _ (by rw [ho]; intro c hc'; cases hc')]
    simp [execOp, ho, resolve, invoke, builtin, hs, hx, hr, Result.andThen]
    refine hK' _ _ (h v' w' (q w' (strs v' (ss ++ [l])) _ ⟨by simpa using r1, rfl⟩ (((Chg.refl _ w).alloc _).grown r2 (fun k hk _ => by simp [hk])) (fun i hi => ?_)))
    rcases r3 i (by simpa using hi) with h4 | h4
    · exact .inl (by simp [h4])
    · exact .inr (by simp at h4; omega)
end Go.Proofs.YtnlppcjfpmnahaaGreatDoor
