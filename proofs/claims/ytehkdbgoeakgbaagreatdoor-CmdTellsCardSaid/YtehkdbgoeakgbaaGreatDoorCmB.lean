/- cmd: parameters in memory. -/
import Derived.Test.YtehkdbgoeakgbaaGreatDoorCmR
import Derived.Test.YtehkdbgoeakgbaaGreatDoorCmBa
import Derived.Laws.StructEq
namespace Go.Proofs.YtehkdbgoeakgbaaGreatDoor
set_option linter.all false
open Go.RowKit

def pmV (p : Pm) : Value := .agg #[.string ⟨p.1.toArray⟩, .string ⟨p.2.toArray⟩]
def flatP (l : List Pm) : List Value := l.flatMap fun p => [.string ⟨p.1.toArray⟩, .string ⟨p.2.toArray⟩]
theorem flatP_at : ∀ (l : List Pm) (i : Nat) (h : i < l.length), (flatP l)[i * 2]? = some (.string ⟨l[i].1.toArray⟩) ∧ (flatP l)[i * 2 + 1]? = some (.string ⟨l[i].2.toArray⟩)
  | p :: l, 0, _ => by simp [flatP]
  | p :: l, i + 1, h => by
    have := flatP_at l i (by simpa using h)
    rw [show (i + 1) * 2 = i * 2 + 1 + 1 by omega]
    simpa [flatP] using this
theorem flatP_len (l : List Pm) : (flatP l).length = l.length * 2 := by
  induction l with
  | nil => rfl
  | cons p l ih => simp [flatP] at ih ⊢; omega
theorem flatP_snoc (l : List Pm) (p : Pm) : flatP (l ++ [p]) = flatP l ++ flatP [p] := by simp [flatP]
theorem flatP_set : ∀ {l : List Pm} {i : Nat} (h : i < l.length) (x : List UInt8), (flatP l).set (i * 2) (.string ⟨x.toArray⟩) = flatP (l.set i (x, l[i].2))
  | p :: l, 0, _, x => by simp [flatP]
  | p :: l, i + 1, h, x => by
    have := flatP_set (l := l) (i := i) (by simpa using h) x
    rw [show (i + 1) * 2 = i * 2 + 1 + 1 by omega]
    simpa [flatP] using this
/-- types of a slice of parameters, of its elements -/
def PTy (t e : TypeId) : Prop := Tryz.prog.underlying t = some (.slice e) ∧ (Tryz.prog.info? e).map (fun i => (i.zero, i.size, i.bytes)) = some (some (.agg #[.string .empty, .string .empty]), 2, 32)
theorem pty_cmd : PTy 22 48 := ⟨Tryz.underlying22, by kernel_rfl⟩
theorem pty_ref : PTy 28 57 := ⟨Tryz.underlying28, by kernel_rfl⟩

/-- a slice of parameters reads these -/
def PmR (w : World) (v : Value) (xs : List Pm) : Prop :=
  ∃ a cap, v = .slice a xs.length cap ∧ xs.length ≤ cap ∧ (0 < xs.length → ∃ g off, a = some ⟨g, off, none⟩ ∧ ∀ i (h : i < xs.length), w.cell? ⟨g, off + i * 2, none⟩ = some (.string ⟨xs[i].1.toArray⟩) ∧ w.cell? ⟨g, off + i * 2 + 1, none⟩ = some (.string ⟨xs[i].2.toArray⟩))
theorem PmR.at {w : World} {a : Option Addr} {n cap : Nat} {xs : List Pm} (h : PmR w (.slice a n cap) xs) (k : Nat) (hk : k < xs.length) :
    ∃ g off, a = some ⟨g, off, none⟩ ∧ w.cell? ⟨g, off + k * 2, none⟩ = some (.string ⟨xs[k].1.toArray⟩) ∧ w.cell? ⟨g, off + k * 2 + 1, none⟩ = some (.string ⟨xs[k].2.toArray⟩) := by
  obtain ⟨a', c', hv, -, hr⟩ := h
  simp only [Value.slice.injEq] at hv
  obtain ⟨rfl, -, -⟩ := hv
  obtain ⟨g, off, rfl, hc⟩ := hr (by omega)
  exact ⟨g, off, rfl, hc k hk⟩
theorem PmR.len {w : World} {a : Option Addr} {n cap : Nat} {xs : List Pm} (h : PmR w (.slice a n cap) xs) : n = xs.length := by
  obtain ⟨a', c', hv, -, hr⟩ := h
  simp only [Value.slice.injEq] at hv
  exact hv.2.1
theorem PmR.cap {w : World} {a : Option Addr} {n cap : Nat} {xs : List Pm} (h : PmR w (.slice a n cap) xs) : n ≤ cap := by
  obtain ⟨a', c', hv, hc, hr⟩ := h
  simp only [Value.slice.injEq] at hv
  omega
theorem PmR.take {w : World} {a : Option Addr} {n cap : Nat} {xs : List Pm} (h : PmR w (.slice a n cap) xs) (k : Nat) (hk : k ≤ n) : PmR w (.slice a k cap) (xs.take k) := by
  have hn := h.len
  have hc := h.cap
  have hl : (xs.take k).length = k := by rw [List.length_take]; omega
  refine ⟨a, cap, by rw [hl], by omega, fun hp => ?_⟩
  obtain ⟨g, off, rfl, -⟩ := h.at 0 (by omega)
  refine ⟨g, off, rfl, fun i hi => ?_⟩
  obtain ⟨g', off', e, c0, c1⟩ := h.at i (by omega)
  simp only [Option.some.injEq, Addr.mk.injEq, and_true] at e
  obtain ⟨rfl, rfl⟩ := e
  rw [List.getElem_take]
  exact ⟨c0, c1⟩
theorem PmR.nil (w : World) (a : Option Addr) (cap : Nat) : PmR w (.slice a 0 cap) [] := ⟨a, cap, rfl, by simp, fun h => by simp at h⟩
theorem PmR.chg {w w' : World} {v : Value} {xs : List Pm} (h : PmR w v xs) (hc : Chg [] w w') : PmR w' v xs := by
  obtain ⟨a, cap, rfl, hcp, hr⟩ := h
  refine ⟨a, cap, rfl, hcp, fun hp => ?_⟩
  obtain ⟨g, off, rfl, hcell⟩ := hr hp
  exact ⟨g, off, rfl, fun i hi => ⟨hc.cell (hcell i hi).1 (by simp), hc.cell (hcell i hi).2 (by simp)⟩⟩
theorem Own.pmR {w0 w : World} {L : List Piece} {e : TypeId} {a : Option Addr} {n cap : Nat} {xs : List Pm} (O : Own w0 w (rowv e 2 (.slice a n cap) n (flatP xs) :: L)) : PmR w (.slice a n cap) xs := by
  have hn : n = xs.length := by
    have h1 := O.rowvLen
    have h2 := flatP_len xs
    omega
  subst hn
  have hcp : xs.length ≤ cap := by
    rcases O.rowvRow.2 with ⟨hv, -⟩ | ⟨g, c', cur, hv, hbg, hg, hnc, _⟩
    · simp only [Value.slice.injEq] at hv; omega
    · simp only [Value.slice.injEq] at hv; omega
  refine ⟨a, cap, rfl, hcp, fun hp => ?_⟩
  obtain ⟨-, g, rfl, -, -⟩ := O.rowvAt 0 (by rw [flatP_len]; omega)
  refine ⟨g, 0, rfl, fun i hi => ?_⟩
  have hl := flatP_len xs
  obtain ⟨h1, h2⟩ := flatP_at xs i hi
  obtain ⟨-, g1, e1, c0, -⟩ := O.rowvAt (i * 2) (by omega)
  obtain ⟨-, g2, e2, c1, -⟩ := O.rowvAt (i * 2 + 1) (by omega)
  simp only [Option.some.injEq, Addr.mk.injEq, and_true] at e1 e2
  subst e1 e2
  rw [List.getElem?_eq_getElem (by omega)] at h1 h2
  rw [Nat.zero_add]
  exact ⟨by rw [c0]; exact h1, by rw [c1]; exact h2⟩
theorem Own.nilPm {w0 w : World} {L : List Piece} (h : Own w0 w L) (e : TypeId) : Own w0 w (rowv e 2 (.slice none 0 0) 0 [] :: L) :=
  h.new (Chg.refl _ _) (rowv e 2 (.slice none 0 0) 0 []) (F := []) ⟨World.ownsRow_nil _ _ _ _, rfl⟩ (by simp)
/-- append of one parameter: what it does -/
theorem run_append_pm {t e : TypeId} (T : PTy t e) {w0 w : World} {L : List Piece} {v : Value} {k : Nat} {xs : List Value} (O : Own w0 w (rowv e 2 v k xs :: L)) (p : Pm) (hlen : k ≤ 20000000) (ty : TypeId) :
    ∃ a' cap w', (Builtin.append_ #[t, t] ty #[v, .slice (some ⟨w.heap.size, 0, none⟩) 1 1]).run Tryz.prog (w.alloc (.cells #[.string ⟨p.1.toArray⟩, .string ⟨p.2.toArray⟩] e)) = .ok (.slice a' (k + 1) cap) w' ∧ Own w0 w' (rowv e 2 (.slice a' (k + 1) cap) (k + 1) (xs ++ flatP [p]) :: L) := by
  obtain ⟨U, ⟨row, rfl⟩, q⟩ := O.open
  obtain ⟨T1, T2⟩ := T
  obtain ⟨i0, hi, hz0, hz1, hz2⟩ := info_parts T2
  have hb : (w.alloc (.cells #[.string ⟨p.1.toArray⟩, .string ⟨p.2.toArray⟩] e)).heap[w.heap.size]? = some (.cells #[.string ⟨p.1.toArray⟩, .string ⟨p.2.toArray⟩] e (0, 0)) := heap_alloc_new _ _
  obtain ⟨v', w', hr, r1, r2, _, r3⟩ := run_append_new (P := Tryz.prog) (w.alloc (.cells #[.string ⟨p.1.toArray⟩, .string ⟨p.2.toArray⟩] e)) w0.heap.size t ty e i0 _ 2 32 T1 hi hz0 hz1 hz2 rfl (by decide) v k _ (row.alloc _) ⟨w.heap.size, 0, none⟩ 1 1 (flatP [p]) rfl
    (by intro j u hu
        match j, hu with
        | 0, hu => simp [flatP] at hu; subst hu; simp [Addr.add, cell_at hb]
        | 1, hu => simp [flatP] at hu; subst hu; simp [Addr.add, cell_at hb]) (by intro u hu; simp [flatP] at hu; rcases hu with rfl | rfl <;> rfl) (by unfold maxLen; omega) (by omega) (Nat.le_trans O.size (by simp))
  obtain ⟨a', cap, rfl⟩ : ∃ a' cap, v' = .slice a' (k + 1) cap := by
    rcases r1.2 with ⟨rfl, h0⟩ | ⟨g, cap, cur, rfl, _⟩
    · omega
    · exact ⟨_, _, rfl⟩
  refine ⟨a', cap, w', hr, q w' (rowv e 2 (.slice a' (k + 1) cap) (k + 1) (xs ++ flatP [p])) _ ⟨r1, rfl⟩ (((Chg.refl _ w).alloc _).grown r2 (fun k hk _ => by simp [hk])) (fun i hi => ?_)⟩
  rcases r3 i (by simpa using hi) with h4 | h4
  · exact .inl (by simp [h4])
  · exact .inr (by simp at h4; omega)
theorem wpList_append_pmO {t e : TypeId} (T : PTy t e) {w0 w : World} {L : List Piece} {ops : Array Oper} {rest : List Oper} {o : Oper} {a : Act} {Q : Exit → Act → World → Prop} (hgd : o.guard = none) (s x : Operand)
    (ho : o.op = .call { callee := .builtin .append, args := #[s, x], argTypes := #[t, t] })
    (v : Value) (k : Nat) (xs : List Value) (p : Pm) (O : Own w0 w (rowv e 2 v k xs :: L)) (hs : a.eval s = v)
    (hx : a.eval x = .slice (some ⟨w.heap.size, 0, none⟩) 1 1) (hlen : k ≤ 20000000)
    (h : ∀ a' cap w', Own w0 w' (rowv e 2 (.slice a' (k + 1) cap) (k + 1) (xs ++ flatP [p]) :: L) → wpList Tryz.prog ops Q rest (a.put o.dst (.slice a' (k + 1) cap)) w') :
    wpList Tryz.prog ops Q (o :: rest) a (w.alloc (.cells #[.string ⟨p.1.toArray⟩, .string ⟨p.2.toArray⟩] e)) := by
  obtain ⟨a', cap, w', hr, O'⟩ := run_append_pm T O p hlen o.type
  refine wpList_plain hgd fun K hK => ?_
  unfold Oper.wp
  simp [execOp, ho, resolve, invoke, builtin, hs, hx, hr, Result.andThen]
  exact hK _ _ (h a' cap w' O')
theorem wpListIn_append_pmO {t e : TypeId} (T : PTy t e) {F : Fence} {n : Nat} {w0 w : World} {L : List Piece} {ops : Array Oper} {rest : List Oper} {o : Oper} {a : Act} {Q : Exit → Act → World → Prop} (hgd : o.guard = none) (s x : Operand)
    (ho : o.op = .call { callee := .builtin .append, args := #[s, x], argTypes := #[t, t] })
    (v : Value) (k : Nat) (xs : List Value) (p : Pm) (O : Own w0 w (rowv e 2 v k xs :: L)) (hs : a.eval s = v)
    (hx : a.eval x = .slice (some ⟨w.heap.size, 0, none⟩) 1 1) (hlen : k ≤ 20000000)
    (h : ∀ a' cap w', Own w0 w' (rowv e 2 (.slice a' (k + 1) cap) (k + 1) (xs ++ flatP [p]) :: L) → wpListIn F n Tryz.prog ops Q rest (a.put o.dst (.slice a' (k + 1) cap)) w') :
    wpListIn F n Tryz.prog ops Q (o :: rest) a (w.alloc (.cells #[.string ⟨p.1.toArray⟩, .string ⟨p.2.toArray⟩] e)) := by
  obtain ⟨a', cap, w', hr, O'⟩ := run_append_pm T O p hlen o.type
  refine wpListIn_plain hgd fun K hK' => ?_
  unfold Oper.wpIn
  refine ⟨?_, ?_⟩
  · simp [Oper.about, ho, resolve, Target.leads, Sem.run_pure]
  · rw [Oper.semAt_plain F _ _ (by rw [ho]; intro c hc'; cases hc')]
    simp [execOp, ho, resolve, invoke, builtin, hs, hx, hr, Result.andThen]
    exact hK' _ _ (h a' cap w' O')
theorem bytesEq (x y : List UInt8) : ((⟨x.toArray⟩ : ByteArray).toList == (⟨y.toArray⟩ : ByteArray).toList) = decide (x = y) := by
  rw [ByteArray.toList_eq, ByteArray.toList_eq]
  exact Bool.beq_eq_decide_eq _ _
theorem pairEq (a b c d : List UInt8) : decide ((a, b) = (c, d)) = (decide (a = c) && decide (b = d)) := by
  rw [Bool.eq_iff_iff]; simp
theorem pmEq_cmd (f g : Pm) (w : World) : (Op.equalIn 10000 48 (.agg #[.string ⟨f.1.toArray⟩, .string ⟨f.2.toArray⟩]) (.agg #[.string ⟨g.1.toArray⟩, .string ⟨g.2.toArray⟩])).run Tryz.prog w = .ok (decide (f = g)) w := by
  obtain ⟨f1, f2⟩ := f
  obtain ⟨g1, g2⟩ := g
  rw [pairEq, ← bytesEq, ← bytesEq]
  go_simp
  by_cases q1 : f1 = g1 <;> by_cases q2 : f2 = g2 <;> simp [q1, q2]
theorem pmEq_ref (f g : Pm) (w : World) : (Op.equalIn 10000 57 (.agg #[.string ⟨f.1.toArray⟩, .string ⟨f.2.toArray⟩]) (.agg #[.string ⟨g.1.toArray⟩, .string ⟨g.2.toArray⟩])).run Tryz.prog w = .ok (decide (f = g)) w := by
  obtain ⟨f1, f2⟩ := f
  obtain ⟨g1, g2⟩ := g
  rw [pairEq, ← bytesEq, ← bytesEq]
  go_simp
  by_cases q1 : f1 = g1 <;> by_cases q2 : f2 = g2 <;> simp [q1, q2]
end Go.Proofs.YtehkdbgoeakgbaaGreatDoor
