/- mailroomref04's Mail and Domains over what a call holds; a copy of recipients. -/
import Derived.Test.YtlmifdkhdcbniaaDoorAdMd
namespace Go.Proofs.YtlmifdkhdcbniaaDoor
set_option linter.all false
open Go.RowKit

section
variable {w0 w : World} {L : List Piece}
theorem rmail_own (O : Own w0 w L) (m : Ml) {G : List Nat} (hr : RcR w m.ra m.rc G) (hs : m.Small) {rcpts most r : Int} (hE : m.err rcpts most = r) :
    Calls Tryd.prog 30 #[m.val, .int .i64 rcpts, .int .i64 most] w fun e w' => e = .returned (.int .i64 r) ∧ Own w0 w' L := by
  rw [← hE]
  exact (rmail_any m hr hs rcpts most).mono (fun _ _ ⟨h1, h2⟩ => ⟨h1, O.pure h2⟩)
theorem rdomains_own (O : Own w0 w L) (m : Ml) {G : List Nat} (hr : RcR w m.ra m.rc G) (hs : m.Small) {ds : List (List UInt8)} (hD : domsS m.rc = ds) :
    Calls Tryd.prog 28 #[m.val] w (CompPost w0 L ds) := by
  rw [← hD]
  refine (rdomains_any m hr hs).mono ?_
  rintro e w' ⟨v, h1, h2⟩
  exact ⟨v, h1, O.newStrs h2.chg h2.row⟩
end
theorem run_zeroRc (w : World) (d : Addr) (a : Option Addr) (c : Nat) (ty : TypeId) :
    (Builtin.append_ #[37, 37] ty #[.slice (some d) 0 0, .slice a 0 c]).run Tryd.prog w = .ok (.slice (some d) 0 0) w := by
  obtain ⟨i, hi, hz, hsize, hby⟩ := info_parts info_rcpt
  cases a <;> simp [Builtin.append_, run_underlying Tryd.underlying37, sizeOf, typeInfo, hi, Builtin.lenOf, Builtin.firstCells, loadCells, loadCellsFrom, storeCells]
/-- append([]Rcpt{}, l...) -/
theorem wpList_copyRcO {w0 w : World} {L : List Piece} {ra : Option Addr} {rc : List (List UInt8 × Bool)} {G : List Nat} {n cap : Nat} (hn : n = rc.length) (h63 : n ≤ 1000000) (O : Own w0 w L) (hr : RcR w ra rc G)
    {ops : Array Oper} {rest : List Oper} {o : Oper} {a : Act} {Q : Exit → Act → World → Prop} (hgd : o.guard = none) (s x : Operand)
    (ho : o.op = .call { callee := .builtin .append, args := #[s, x], argTypes := #[37, 37] })
    (hs : a.eval s = .slice (some ⟨w.heap.size, 0, none⟩) 0 0) (hx : a.eval x = .slice ra n cap)
    (h : ∀ X y w', Own w0 w' (rowv 43 2 (.slice X n y) n (flat2 rc) :: L) → wpList Tryd.prog ops Q rest (a.put o.dst (.slice X n y)) w') : wpList Tryd.prog ops Q (o :: rest) a (w.alloc (.cells #[] 43)) := by
  refine wpList_plain hgd fun K hK => ?_
  by_cases h0 : n = 0
  · subst h0
    have hrc : rc = [] := List.eq_nil_of_length_eq_zero hn.symm
    subst hrc
    have hru := run_zeroRc (w.alloc (.cells #[] 43)) ⟨w.heap.size, 0, none⟩ ra cap o.type
    unfold Oper.wp
    simp [execOp, ho, resolve, invoke, builtin, hs, hx, hru, Result.andThen]
    exact hK _ _ (h _ _ _ (O.emptyRowv 43 2))
  · have hp : 0 < n := by omega
    obtain ⟨g, off, rfl, -, -⟩ := hr (by omega)
    subst hn
    have O2 := O.alloc (.cells #[] 43)
    have hr2 : RcR (w.alloc (.cells #[] 43)) (some ⟨g, off, none⟩) rc G := hr.keep ((Chg.refl [] w).alloc _) (by simp)
    obtain ⟨X, y, w', hru, O'⟩ := run_copyRc (cap := cap) hp h63 O2 hr2 ⟨w.heap.size, 0, none⟩ o.type
    unfold Oper.wp
    simp [execOp, ho, resolve, invoke, builtin, hs, hx, hru, Result.andThen]
    exact hK _ _ (h _ _ _ O')
end Go.Proofs.YtlmifdkhdcbniaaDoor
