/- recipients, appended. -/
import Derived.Test.YtlmifdkhdcbniaaDoorAdLess
namespace Go.Proofs.YtlmifdkhdcbniaaDoor
set_option linter.all false
open Go.RowKit

theorem info_rcpt : (Tryd.prog.info? 43).map (fun i => (i.zero, i.size, i.bytes)) = some (some (.agg #[.string .empty, .bool false]), 2, 24) := by kernel_rfl
theorem flat2_len : ∀ (rc : List (List UInt8 × Bool)), (flat2 rc).length = rc.length * 2
  | [] => rfl
  | r :: rc => by
    have := flat2_len rc
    simp only [flat2, List.flatMap_cons, List.length_append, List.length_cons, List.length_nil] at this ⊢
    omega
theorem flat2_one : ∀ (rc : List (List UInt8 × Bool)), ∀ u ∈ flat2 rc, u.oneCell' = true := by
  intro rc u hu
  obtain ⟨r, _, hr⟩ := List.mem_flatMap.1 hu
  simp at hr
  rcases hr with rfl | rfl <;> rfl
theorem flat2_app (a b : List (List UInt8 × Bool)) : flat2 (a ++ b) = flat2 a ++ flat2 b := by simp [flat2]
theorem RcR.cells {w : World} {g off : Nat} {rc : List (List UInt8 × Bool)} {G : List Nat} (h : RcR w (some ⟨g, off, none⟩) rc G) (j : Nat) (u : Value) (hu : (flat2 rc)[j]? = some u) : w.cell? ((⟨g, off, none⟩ : Addr).add j) = some u := by
  have hj : j < rc.length * 2 := by
    rcases Nat.lt_or_ge j (rc.length * 2) with h' | h'
    · exact h'
    · rw [List.getElem?_eq_none (by rw [flat2_len]; exact h')] at hu; cases hu
  obtain ⟨g', off', e, _, hc⟩ := h (by omega)
  simp only [Option.some.injEq, Addr.mk.injEq, and_true] at e
  obtain ⟨rfl, rfl⟩ := e
  rw [show (⟨g, off, none⟩ : Addr).add j = ⟨g, off + j, none⟩ from by unfold Addr.add; split <;> simp_all]
  have hi : j / 2 < rc.length := by omega
  obtain ⟨h1, h2⟩ := hc (j / 2) hi
  obtain ⟨f1, f2⟩ := flat2_get rc (j / 2) hi
  rcases Nat.mod_two_eq_zero_or_one j with e | e
  · have ej : j = j / 2 * 2 := by omega
    rw [ej, f1] at hu
    rw [ej, h1, hu]
  · have ej : j = j / 2 * 2 + 1 := by omega
    rw [ej, f2] at hu
    rw [ej]
    rw [show off + (j / 2 * 2 + 1) = off + j / 2 * 2 + 1 by omega, h2, hu]
theorem run_copyRc {w0 w : World} {L : List Piece} {g off cap : Nat} {rc : List (List UInt8 × Bool)} {G : List Nat} (hn : 0 < rc.length) (h63 : rc.length ≤ 1000000) (O : Own w0 w L) (hr : RcR w (some ⟨g, off, none⟩) rc G) (d : Addr) (ty : TypeId) :
    ∃ x y w', (Builtin.append_ #[37, 37] ty #[.slice (some d) 0 0, .slice (some ⟨g, off, none⟩) rc.length cap]).run Tryd.prog w = .ok (.slice (some ⟨x, 0, none⟩) rc.length y) w' ∧ Own w0 w' (rowv 43 2 (.slice (some ⟨x, 0, none⟩) rc.length y) rc.length (flat2 rc) :: L) := by
  obtain ⟨i, hi, hz, hsize, hby⟩ := info_parts info_rcpt
  have hl := flat2_len rc
  have hbytes : (0 + rc.length) * i.bytes ≤ 140737488355328 := by rw [hby]; omega
  have hru := run_append_grow (P := Tryd.prog) w 37 ty 43 i _ Tryd.underlying37 hi hz d 0 0 [] (by simp) (by simp) ⟨g, off, none⟩ rc.length cap (flat2 rc) (by rw [hsize]; exact hl) (fun j u hu => hr.cells j u hu) (by omega) (by omega) (growslice_fits (by omega) hbytes)
  rw [Nat.zero_add] at hru
  have hge := grownCap_ge w rc.length 0 43
  have hcm : grownCap w rc.length 0 43 ≤ maxLen := grownCap_le_maxLen w rc.length 0 43 (by unfold maxLen; omega)
  refine ⟨_, _, _, hru, O.new (((Chg.refl [] w).drew).alloc _) (rowv 43 2 _ rc.length (flat2 rc)) (F := [w.heap.size]) ⟨⟨hl, .inr ⟨w.heap.size, _, _, rfl, O.size, heap_alloc_new w.drew _, hge, hcm, ?_, ?_⟩⟩, rfl⟩ (by simp)⟩
  · have hzs : ((Value.agg #[.string .empty, .bool false]).cells).size = 2 := rfl
    simp only [Array.size_append, List.size_toArray, size_zeroCells, hzs, hl, List.length_nil]
    omega
  · simp only [Array.toList_append, List.append_assoc, List.nil_append]
    rw [← hl]
    exact List.take_left
theorem run_oneRc {w0 w : World} {L : List Piece} {v : Value} {n : Nat} {xs : List Value} (O : Own w0 w (rowv 43 2 v n xs :: L)) (hn : n ≤ 1000000) (B : Nat) (s : List UInt8) (b : Bool) (c0 : w.cell? ⟨B, 0, none⟩ = some (.string ⟨s.toArray⟩)) (c1 : w.cell? ⟨B, 1, none⟩ = some (.bool b)) (ty : TypeId) :
    ∃ v' w', (Builtin.append_ #[37, 37] ty #[v, .slice (some ⟨B, 0, none⟩) 1 1]).run Tryd.prog w = .ok v' w' ∧ Own w0 w' (rowv 43 2 v' (n + 1) (xs ++ flat2 [(s, b)]) :: L) := by
  obtain ⟨i, hi, hz, hsize, hby⟩ := info_parts info_rcpt
  obtain ⟨F, ⟨row, rfl⟩, q⟩ := O.open
  obtain ⟨v', w', hr, h1, h2, _, h3⟩ := run_append_new (P := Tryd.prog) w w0.heap.size 37 ty 43 i _ 2 24 Tryd.underlying37 hi hz hsize hby rfl (by omega) v n xs row ⟨B, 0, none⟩ 1 1 (flat2 [(s, b)]) rfl (fun j u hu => by
    match j, hu with
    | 0, hu => simp [flat2] at hu; subst hu; simpa [Addr.add] using c0
    | 1, hu => simp [flat2] at hu; subst hu; simpa [Addr.add] using c1) (flat2_one _) (by unfold maxLen; omega) (by omega) O.size
  refine ⟨v', w', hr, q w' (rowv 43 2 v' (n + 1) (xs ++ flat2 [(s, b)])) _ ⟨h1, rfl⟩ ((Chg.refl _ w).grown h2 (fun k hk _ => by simp [hk])) (fun i hi => ?_)⟩
  rcases h3 i (by simpa using hi) with h4 | h4
  · exact .inl (by simp [h4])
  · exact .inr h4
theorem wp_if {c : Bool} {A B : Prop} (hc : c = true) (h : A) : if c = true then A else B := by rw [if_pos hc]; exact h
theorem wp_copyRc {w0 w : World} {L : List Piece} {g off n cap : Nat} {rc : List (List UInt8 × Bool)} {G : List Nat} (hn : n = rc.length) (hp : 0 < n) (h63 : n ≤ 1000000) (O : Own w0 w L) (hr : RcR w (some ⟨g, off, none⟩) rc G) {o : Oper} {a : Act} {K : Act → World → Prop} {Q : Exit → Act → World → Prop} {d s : Operand} {dT : TypeId}
    (hop : o.op = Op.call { callee := Callee.builtin Builtin.append, args := #[d, s], argTypes := #[dT, dT] }) (hdT : dT = 37) (hd : ∃ ad, a.eval d = .slice (some ad) 0 0) (hs : a.eval s = .slice (some ⟨g, off, none⟩) n cap)
    (hK : ∀ x y w', Own w0 w' (rowv 43 2 (.slice (some ⟨x, 0, none⟩) n y) n (flat2 rc) :: L) → K (a.put o.dst (.slice (some ⟨x, 0, none⟩) n y)) w') : Oper.wp Tryd.prog o a w K Q := by
  subst hdT hn
  obtain ⟨ad, hd⟩ := hd
  obtain ⟨x, y, w', hru, O'⟩ := run_copyRc (cap := cap) hp h63 O hr ad o.type
  unfold Oper.wp
  simp [execOp, hop, resolve, invoke, builtin, hd, hs, hru, Result.andThen]
  exact hK x y w' O'
theorem wp_oneRc {w0 w : World} {L : List Piece} {v : Value} {n : Nat} {xs : List Value} (O : Own w0 w (rowv 43 2 v n xs :: L)) (hn : n ≤ 1000000) (B : Nat) (r : List UInt8) (b : Bool) (c0 : w.cell? ⟨B, 0, none⟩ = some (.string ⟨r.toArray⟩)) (c1 : w.cell? ⟨B, 1, none⟩ = some (.bool b))
    {o : Oper} {a : Act} {K : Act → World → Prop} {Q : Exit → Act → World → Prop} {d s : Operand} {dT : TypeId}
    (hop : o.op = Op.call { callee := Callee.builtin Builtin.append, args := #[d, s], argTypes := #[dT, dT] }) (hdT : dT = 37) (hd : a.eval d = v) (hs : a.eval s = .slice (some ⟨B, 0, none⟩) 1 1)
    (hK : ∀ x y w', Own w0 w' (rowv 43 2 (.slice x (n + 1) y) (n + 1) (xs ++ flat2 [(r, b)]) :: L) → K (a.put o.dst (.slice x (n + 1) y)) w') : Oper.wp Tryd.prog o a w K Q := by
  subst hdT
  obtain ⟨v', w', hru, O'⟩ := run_oneRc O hn B r b c0 c1 o.type
  obtain ⟨x, y, rfl⟩ := O'.rowvShape
  unfold Oper.wp
  simp [execOp, hop, resolve, invoke, builtin, hd, hs, hru, Result.andThen]
  exact hK x y w' O'
end Go.Proofs.YtlmifdkhdcbniaaDoor
