/- frame: append of one int; a row's places. -/
import Derived.Test.YtdfkjjopekceoaaDoorFmS
import Derived.Test.YtdfkjjopekceoaaDoorNums
namespace Go.Proofs.YtdfkjjopekceoaaDoor
set_option linter.all false
open Go.RowKit

theorem info_int : (Tryd.prog.info? 3).map (fun i => (i.zero, i.size, i.bytes)) = some (some (.int .i64 0), 1, 8) := by kernel_rfl
theorem Own.nilNums {w0 w : World} {L : List Piece} (h : Own w0 w L) : Own w0 w (nums (.slice none 0 0) [] :: L) :=
  h.new (Chg.refl _ _) (nums (.slice none 0 0) []) (F := []) ⟨World.ownsRow_nil _ _ _ _, rfl⟩ (by simp)
theorem wpList_append_intO {w0 w : World} {L : List Piece} {ops : Array Oper} {rest : List Oper} {o : Oper} {a : Act} {Q : Exit → Act → World → Prop} (hgd : o.guard = none) (s x : Operand)
    (ho : o.op = .call { callee := .builtin .append, args := #[s, x], argTypes := #[37, 37] })
    (v : Value) (zs : List Int) (n : Int) (O : Own w0 w (nums v zs :: L)) (hs : a.eval s = v)
    (hx : a.eval x = .slice (some ⟨w.heap.size, 0, none⟩) 1 1) (hlen : zs.length ≤ 1000000000)
    (h : ∀ v' w', Own w0 w' (nums v' (zs ++ [n]) :: L) → wpList Tryd.prog ops Q rest (a.put o.dst v') w') : wpList Tryd.prog ops Q (o :: rest) a (w.alloc (.cells #[.int .i64 n] 3)) := by
  obtain ⟨F, ⟨row, rfl⟩, q⟩ := O.open
  obtain ⟨i0, hi, hz0, hz1, hz2⟩ := info_parts info_int
  have hc : (w.alloc (.cells #[.int .i64 n] 3)).cell? ⟨w.heap.size, 0, none⟩ = some (.int .i64 n) := by rw [cell_at (heap_alloc_new _ _)]; rfl
  refine wpList_append_new (w.alloc (.cells #[.int .i64 n] 3)) hgd s x 37 ho w0.heap.size 3 i0 (.int .i64 0) 1 8 Tryd.underlying37 hi hz0 hz1 hz2 rfl (by decide) v zs.length _ hs (row.alloc _) ⟨w.heap.size, 0, none⟩ 1 1 [.int .i64 n] hx rfl ?_ ?_ ?_ ?_ (Nat.le_trans O.size (by simp)) ?_
  · intro j u hu
    match j, hu with
    | 0, hu => simp at hu; subst hu; simpa [Addr.add] using hc
  · simp [Value.oneCell']
  · unfold maxLen; omega
  · omega
  · intro v' w' h1 h2 h3
    refine h v' w' (q w' (nums v' (zs ++ [n])) _ ⟨by simpa using h1, rfl⟩ (((Chg.refl _ w).alloc _).grown h2 (fun k hk _ => by simp [hk])) (fun i hi => ?_))
    rcases h3 i (by simpa using hi) with h4 | h4
    · exact .inl (by simp [h4])
    · exact .inr (by simp at h4; omega)
/-- where the records begin -/
def atL (ts : List (List UInt8)) (i : Nat) : List Int := (List.range i).map fun j => ((rowN (ts.take j) : Nat) : Int)
theorem atL_len (ts : List (List UInt8)) (i : Nat) : (atL ts i).length = i := by unfold atL; simp
theorem atL_snoc (ts : List (List UInt8)) (i : Nat) : atL ts (i + 1) = atL ts i ++ [((rowN (ts.take i) : Nat) : Int)] := by
  unfold atL; rw [List.range_succ]; simp
theorem atL_at (ts : List (List UInt8)) (i j : Nat) (h : j < (atL ts i).length) : (atL ts i)[j] = ((rowN (ts.take j) : Nat) : Int) := by
  have hj : j < i := by rw [atL_len] at h; exact h
  have e : (atL ts i)[j]? = some ((rowN (ts.take j) : Nat) : Int) := by unfold atL; simp [hj]
  exact (List.getElem?_eq_some_iff.1 e).2
theorem rowN_take (ts : List (List UInt8)) (i : Nat) (h : i < ts.length) : rowN (ts.take (i + 1)) = rowN (ts.take i) + manyN (ts[i]).length := by
  rw [List.take_succ_eq_append_getElem h, rowN_snoc]
theorem rowAll_take (age place : Int) (ts : List (List UInt8)) (i : Nat) (h : i < ts.length) : rowAll age place (ts.take (i + 1)) = rowAll age place (ts.take i) ++ splitL age (place + rowN (ts.take i)) ts[i] := by
  rw [List.take_succ_eq_append_getElem h, rowAll_snoc]
def RowOk (age place : Int) (ts : List (List UInt8)) (i : Nat) : Prop := ∀ j (h : j < ts.length), j < i → RecOk age (place + rowN (ts.take j)) ts[j]
theorem RowOk.snoc {age place : Int} {ts : List (List UInt8)} {i : Nat} (h : RowOk age place ts i) (hi : i < ts.length) (hr : RecOk age (place + rowN (ts.take i)) ts[i]) : RowOk age place ts (i + 1) := by
  intro j hj hji
  by_cases e : j = i
  · subst e; exact hr
  · exact h j hj (by omega)
theorem row_join {age place : Int} {ts : List (List UInt8)} (h : RowOk age place ts ts.length) (i : Nat) (hi : i < ts.length) : joinB age (place + rowN (ts.take i)) ((rowAll age place ts).drop (rowN (ts.take i))) = true ∧ joinT ((rowAll age place ts).drop (rowN (ts.take i))) = ts[i] ∧ joinM ((rowAll age place ts).drop (rowN (ts.take i))) = manyN (ts[i]).length := by
  rw [rowAll_drop age place ts i (by omega), List.drop_eq_getElem_cons hi, rowAll]
  exact join_split (h i hi hi) _
theorem row_le {age place : Int} {ts : List (List UInt8)} {i : Nat} (h : RowOk age place ts i) (hi : i ≤ ts.length) : i = 0 ∨ (0 ≤ place + 0 ∧ place + rowN (ts.take i) ≤ 1024 ∧ 0 ≤ place) := by
  match i, h, hi with
  | 0, _, _ => exact .inl rfl
  | i + 1, h, hi =>
    right
    have h0 := (h 0 (by omega) (by omega)).bounds
    have hb := (h i (by omega) (by omega)).bounds
    rw [rowN_take ts i (by omega)]
    simp [rowN] at h0
    push_cast
    omega
end Go.Proofs.YtdfkjjopekceoaaDoor
