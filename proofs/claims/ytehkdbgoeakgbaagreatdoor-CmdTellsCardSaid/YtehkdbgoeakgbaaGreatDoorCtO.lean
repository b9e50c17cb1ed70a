/- append of parameters that are read; mailroomlaw07.own. -/
import Derived.Test.YtehkdbgoeakgbaaGreatDoorCtT
namespace Go.Proofs.YtehkdbgoeakgbaaGreatDoor
set_option linter.all false
open Go.RowKit Go.Shelf

theorem run_append_none {w : World} {base : Nat} {t ty e : TypeId} {size : Nat} (i : TypeInfo) (ht : Tryz.prog.underlying t = some (.slice e)) (hi : Tryz.prog.info? e = some i) (v : Value) (n : Nat) (xs : List Value) (hown : w.ownsRow base e size v n xs) (a : Option Addr) (c : Nat) :
    (Builtin.append_ #[t, t] ty #[v, .slice a 0 c]).run Tryz.prog w = .ok v w := by
  rcases hown.2 with ⟨rfl, rfl⟩ | ⟨g, cap, cur, rfl, _, _, hnc, _⟩
  · cases a <;> simp [Builtin.append_, run_underlying ht, sizeOf, typeInfo, hi, Builtin.lenOf, Builtin.firstCells, loadCells, loadCellsFrom]
  · cases a <;> simp [Builtin.append_, run_underlying ht, sizeOf, typeInfo, hi, Builtin.lenOf, Builtin.firstCells, loadCells, loadCellsFrom, hnc, storeCells]
theorem PmR.cells {w : World} {g off n cap : Nat} {ps : List Pm} (h : PmR w (.slice (some ⟨g, off, none⟩) n cap) ps) (j : Nat) (u : Value) (hu : (flatP ps)[j]? = some u) : w.cell? ((⟨g, off, none⟩ : Addr).add j) = some u := by
  have hj : j < ps.length * 2 := by
    rcases Nat.lt_or_ge j (ps.length * 2) with h' | h'
    · exact h'
    · rw [List.getElem?_eq_none (by rw [flatP_len]; exact h')] at hu; cases hu
  have hi : j / 2 < ps.length := by omega
  obtain ⟨g', off', e, h1, h2⟩ := h.at (j / 2) hi
  simp only [Option.some.injEq, Addr.mk.injEq, and_true] at e
  obtain ⟨rfl, rfl⟩ := e
  rw [show (⟨g, off, none⟩ : Addr).add j = ⟨g, off + j, none⟩ from by unfold Addr.add; split <;> simp_all]
  obtain ⟨f1, f2⟩ := flatP_at ps (j / 2) hi
  rcases Nat.mod_two_eq_zero_or_one j with e | e
  · have ej : j = j / 2 * 2 := by omega
    rw [ej, f1] at hu
    rw [ej, h1, hu]
  · have ej : j = j / 2 * 2 + 1 := by omega
    rw [ej, f2] at hu
    rw [ej]
    rw [show off + (j / 2 * 2 + 1) = off + j / 2 * 2 + 1 by omega, h2, hu]
theorem flatP_one (ps : List Pm) : ∀ u ∈ flatP ps, u.oneCell' = true := by
  intro u hu
  obtain ⟨r, _, hr⟩ := List.mem_flatMap.1 hu
  simp at hr
  rcases hr with rfl | rfl <;> rfl
theorem run_append_pms {t e : TypeId} (T : PTy t e) {w0 w : World} {L : List Piece} {v : Value} {k : Nat} {xs : List Value} (O : Own w0 w (rowv e 2 v k xs :: L)) {src : Option Addr} {n cap : Nat} {ps : List Pm} (hn : n = ps.length) (hR : PmR w (.slice src n cap) ps) (hlen : k + n ≤ 2000000) (ty : TypeId) :
    ∃ a' cap' w', (Builtin.append_ #[t, t] ty #[v, .slice src n cap]).run Tryz.prog w = .ok (.slice a' (k + n) cap') w' ∧ Own w0 w' (rowv e 2 (.slice a' (k + n) cap') (k + n) (xs ++ flatP ps) :: L) := by
  obtain ⟨T1, T2⟩ := T
  obtain ⟨i0, hi, hz0, hz1, hz2⟩ := info_parts T2
  obtain ⟨a0, c0, hv⟩ := O.rowvShape
  rcases Nat.eq_zero_or_pos n with h0 | h0
  · subst h0
    have hps : ps = [] := List.length_eq_zero_iff.1 hn.symm
    subst hps
    have hr := run_append_none (ty := ty) i0 T1 hi v k xs O.rowvRow src cap
    subst hv
    exact ⟨a0, c0, w, hr, by simpa [flatP] using O⟩
  · obtain ⟨g, off, e1, -, -⟩ := hR.at 0 (by omega)
    subst e1
    obtain ⟨U, ⟨row, rfl⟩, q⟩ := O.open
    obtain ⟨v', w', hr, r1, r2, _, r3⟩ := run_append_new (P := Tryz.prog) w w0.heap.size t ty e i0 _ 2 32 T1 hi hz0 hz1 hz2 rfl (by decide) v k _ row ⟨g, off, none⟩ n cap (flatP ps) (by rw [flatP_len, hn]) (fun j u hu => hR.cells j u hu) (flatP_one ps) (by unfold maxLen; omega) (by omega) O.size
    obtain ⟨a', cap', rfl⟩ : ∃ a' cap', v' = .slice a' (k + n) cap' := by
      rcases r1.2 with ⟨rfl, h0⟩ | ⟨g, cap, cur, rfl, _⟩
      · omega
      · exact ⟨_, _, rfl⟩
    refine ⟨a', cap', w', hr, q w' (rowv e 2 (.slice a' (k + n) cap') (k + n) (xs ++ flatP ps)) _ ⟨r1, rfl⟩ ((Chg.refl _ w).grown r2 (fun k hk _ => by simp [hk])) (fun i hi => ?_)⟩
    rcases r3 i (by simpa using hi) with h4 | h4
    · exact .inl (by simp [h4])
    · exact .inr h4
theorem wpList_append_pms {t e : TypeId} (T : PTy t e) {w0 w : World} {L : List Piece} {ops : Array Oper} {rest : List Oper} {o : Oper} {a : Act} {Q : Exit → Act → World → Prop} (hgd : o.guard = none) (s x : Operand)
    (ho : o.op = .call { callee := .builtin .append, args := #[s, x], argTypes := #[t, t] })
    (v : Value) (k : Nat) (xs : List Value) (O : Own w0 w (rowv e 2 v k xs :: L)) (hs : a.eval s = v) {src : Option Addr} {n cap : Nat} {ps : List Pm} (hn : n = ps.length) (hR : PmR w (.slice src n cap) ps)
    (hx : a.eval x = .slice src n cap) (hlen : k + n ≤ 2000000)
    (h : ∀ a' cap' w', Own w0 w' (rowv e 2 (.slice a' (k + n) cap') (k + n) (xs ++ flatP ps) :: L) → wpList Tryz.prog ops Q rest (a.put o.dst (.slice a' (k + n) cap')) w') :
    wpList Tryz.prog ops Q (o :: rest) a w := by
  refine wpList_plain hgd fun K hK => ?_
  obtain ⟨a', cap', w', hr, O'⟩ := run_append_pms T O hn hR hlen o.type
  unfold Oper.wp
  simp [execOp, ho, resolve, invoke, builtin, hs, hx, hr, Result.andThen]
  exact hK _ _ (h a' cap' w' O')
/-- a command, in memory of its own -/
def OwnPost7 (w0 : World) (L : List Piece) (c : Cm) (e : Ending) (w' : World) : Prop :=
  ∃ a cap, e = .returned (cmV c a c.ps.length cap) ∧ Own w0 w' (rowv 48 2 (.slice a c.ps.length cap) c.ps.length (flatP c.ps) :: L)
set_option maxRecDepth 100000 in
set_option maxHeartbeats 4000000 in
theorem own7_own {w0 w : World} {L : List Piece} (O : Own w0 w L) (c : Cm) {a : Option Addr} {N cap : Nat} (hn : N = c.ps.length) (hl : N ≤ 1000000) (RD : ∀ w', Own w0 w' L → PmR w' (.slice a N cap) c.ps) :
    Calls Tryz.prog 6 #[cmV c a N cap] w (OwnPost7 w0 L c) := by
  unfold cmV
  have O1 := O.newBox #[.int .u8 c.verb, .string ⟨c.arg.toArray⟩, .slice a N cap] 24
  have O2 := O1.newBox #[.int .u8 0, .string ⟨#[]⟩, .slice none 0 0] 24
  obtain ⟨CB, hCB⟩ : ∃ b, b = w.heap.size := ⟨_, rfl⟩
  obtain ⟨RB, hRB⟩ : ∃ b, b = w.heap.size + 1 := ⟨_, rfl⟩
  rw [show (w.alloc (.cells #[.int .u8 c.verb, .string ⟨c.arg.toArray⟩, .slice a N cap] 24)).heap.size = RB by rw [hRB]; simp, ← hCB] at O2
  have WH : Hid (w.heap.size = CB ∧ w.heap.size + 1 = RB) := by unfold Hid; omega
  have RDH := Lib.hid RD
  have HN := Lib.hid hn
  clear hCB hRB O O1 RD hn
  go_enter Tryz.func6, Tryz.ntmps6
  go_upto_region 1 with fail
  rw [WH.out.2, WH.out.1]
  clear WH
  generalize (w.alloc (.cells #[.int .u8 c.verb, .string ⟨c.arg.toArray⟩, .slice a N cap] 24)).alloc (.cells #[.int .u8 0, .string ⟨#[]⟩, .slice none 0 0] 24) = W at O2 ⊢
  have O3 := O2.emptyRowv 48 2
  have x2 : (W.alloc (.cells #[] 48)).cell? ⟨CB, 2, none⟩ = some (.slice a N cap) := (O3.pick 2).cell 2
  have PR := RDH.out _ O3.drop.drop.drop
  go_wp2_with (at_builtin; refine wpList_append_pms pty_cmd rfl _ _ rfl _ _ _ O3 rfl HN.out PR rfl (by omega) ?_)
  intro a2 c2 w2 O4
  clear O2 O3 PR x2 RDH
  have OY := O4.selK 3 [2, 0, 1]
  have s2 := OY.cell 2
  have f2 := OY.free
  have P1 := OY.set 2 (.slice a2 N c2)
  have z0 := P1.cell 0
  have z1 := P1.cell 1
  have z2 := P1.cell 2
  have PB := P1.selK 3 [2, 1, 0]
  have r0 := PB.cell 0
  have g0 := PB.free
  have P2 := PB.set 0 (.int .u8 c.verb)
  have r1 := P2.cell 1
  have g1 := P2.free
  have P3 := P2.set 1 (.string ⟨c.arg.toArray⟩)
  have r2 := P3.cell 2
  have g2 := P3.free
  have P4 := P3.set 2 (.slice a2 N c2)
  have t0 := P4.cell 0
  have t1 := P4.cell 1
  have t2 := P4.cell 2
  go_wp2
  refine bodyPost_ret (v := .agg #[.int .u8 c.verb, .string ⟨c.arg.toArray⟩, .slice a2 N c2]) (by simp [results, Tryz.results6, go_sem, t0, t1, t2]; try rfl) rfl ?_
  have OO := P4.selK 3 [1]
  rw [HN.out] at OO ⊢
  exact ⟨a2, c2, rfl, OO⟩
end Go.Proofs.YtehkdbgoeakgbaaGreatDoor
