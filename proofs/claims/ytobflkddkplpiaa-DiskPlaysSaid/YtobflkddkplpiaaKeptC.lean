/- DiskKept: the steps in memory. -/
import Derived.Test.YtobflkddkplpiaaKeptB
namespace Go.Proofs.Ytobflkddkplpiaa
set_option linter.all false
open Go.RowKit Go.Maps
open Go.ChangeShapes Go.WideShapes Go.ChangeAt

theorem flat5 : ∀ (l : List St) (i j : Nat) (h : i < l.length), j < 5 → (l.flatMap St.cell)[i * 5 + j]? = (l[i]'h).cell[j]?
  | [], _, _, h, _ => by simp at h
  | s :: r, 0, j, _, hj => by
    rw [List.flatMap_cons, List.getElem?_append_left (by simp [St.cell]; omega)]
    simp
  | s :: r, i + 1, j, h, hj => by
    have e : (i + 1) * 5 + j = s.cell.length + (i * 5 + j) := by simp [St.cell]; omega
    rw [List.flatMap_cons, e, List.getElem?_append_right (by omega), Nat.add_sub_cancel_left, flat5 r i j (by simpa using h) hj]
    simp
theorem flat5_len : ∀ (l : List St), (l.flatMap St.cell).length = l.length * 5
  | [] => rfl
  | s :: r => by rw [List.flatMap_cons, List.length_append, flat5_len r]; simp [St.cell]; omega
theorem flat5_one : ∀ (l : List St), ∀ u ∈ l.flatMap St.cell, u.oneCell' = true := by
  intro l u hu
  obtain ⟨s, _, hs⟩ := List.mem_flatMap.1 hu
  simp [St.cell] at hs
  rcases hs with rfl | rfl | rfl | rfl | rfl <;> rfl
theorem StepsR.cells {w : World} {ad : Addr} {n cap : Nat} {l : List St} {G : List Nat} (h : StepsR w (.slice (some ad) n cap) l G) (j : Nat) (u : Value) (hu : (l.flatMap St.cell)[j]? = some u) : w.cell? (ad.add j) = some u := by
  have hj : j < l.length * 5 := by
    rcases Nat.lt_or_ge j (l.length * 5) with h' | h'
    · exact h'
    · rw [List.getElem?_eq_none (by rw [flat5_len]; exact h')] at hu; cases hu
  obtain ⟨a', cap', hv, h1, h2⟩ := h
  obtain ⟨g, off, rfl, hg, hc⟩ := h2 (by omega)
  simp only [Value.slice.injEq, Option.some.injEq] at hv
  obtain ⟨rfl, -, -⟩ := hv
  have hi : j / 5 < l.length := by omega
  have e : j / 5 * 5 + j % 5 = j := by omega
  have := hc (j / 5) hi (j % 5) (by omega)
  rw [e, ← flat5 l (j / 5) (j % 5) hi (by omega), e, hu] at this
  rw [show (⟨g, off, none⟩ : Addr).add j = ⟨g, off + j, none⟩ from by unfold Addr.add; split <;> simp_all]
  exact this
theorem info_step : (Try.prog.info? 33).map (fun i => (i.zero, i.size, i.bytes)) = some (some (.agg #[.int .u8 0, .int .i64 0, .int .u8 0, .int .i64 0, .slice none 0 0]), 5, 56) := by kernel_rfl
theorem kind_step {H : Type} {enc : TypeId × Value → H} {W : World} {v : Value} {d : DataW H} {p : List MemPlace} {base : Nat} (hv : Value.okWide Try.prog W .any base 22 v)
    (h : DataW.Trod enc Try.prog W 0 (fun _ => true) true 22 v d p) : Kind v := by
  obtain ⟨a, len, cap, rfl⟩ := okWide_slice Try.underlying22 hv
  obtain ⟨fuel, hf⟩ := h
  have hf : DataW.trod enc Try.prog W 0 (fun _ => true) true fuel 22 [.slice a len cap] = some (d, p) := by simpa [Value.cells] using hf
  rcases Deep.open_slice Try.underlying22 hf with ⟨hcs, _⟩ | ⟨x, l, c, m, n, D, Pl, hcs, _⟩
  · simp at hcs
    obtain ⟨rfl, rfl, rfl⟩ := hcs
    exact .inl rfl
  · simp at hcs
    obtain ⟨rfl, rfl, rfl⟩ := hcs
    exact .inr ⟨_, _, _, rfl⟩
theorem Own.emptyStrs {w0 w : World} {L : List Piece} (h : Own w0 w L) : Own w0 (w.alloc (.cells #[] 9)) (strs (.slice (some ⟨w.heap.size, 0, none⟩) 0 0) [] :: L) :=
  h.new ((Chg.refl [] w).alloc _) (strs _ []) (F := [w.heap.size]) ⟨World.ownsRow_made w #[] 0 h.size (by unfold maxLen; omega) (by simp), rfl⟩ (by simp)
theorem Own.free0 {w0 w : World} {L : List Piece} {g n cap : Nat} {ss : List (List UInt8)} (h : Own w0 w (strs (.slice (some ⟨g, 0, none⟩) n cap) ss :: L)) (k : Nat) (hk : k < ss.length) : w.frozen? ⟨g, k, none⟩ = false := (h.readRow k hk).2.2
theorem Own.strsKind {w0 w : World} {L : List Piece} {v : Value} {ss : List (List UInt8)} (h : Own w0 w (strs v ss :: L)) : v = .slice none 0 0 ∨ ∃ ad m c, v = .slice (some ad) m c := by
  rcases row_shape' h.row with e | ⟨g, cap, e⟩
  · exact .inl e
  · exact .inr ⟨_, _, _, e⟩
theorem wpList_append_stepsO {w0 w : World} {L : List Piece} {ops : Array Oper} {rest : List Oper} {o : Oper} {a : Act} {Q : Exit → Act → World → Prop} (hgd : o.guard = none) (s x : Operand)
    (ho : o.op = .call { callee := .builtin .append, args := #[s, x], argTypes := #[22, 22] })
    {v : Value} {n : Nat} {xs : List Value} (O : Own w0 w (rowv 33 5 v n xs :: L)) (hs : a.eval s = v) (sx : Value) (l : List St) (G : List Nat) (hx : a.eval x = sx) (hm : StepsR w sx l G) (hk : Kind sx) (hlen : n + l.length ≤ 100000000)
    (h : ∀ v' w', Own w0 w' (rowv 33 5 v' (n + l.length) (xs ++ l.flatMap St.cell) :: L) → wpList Try.prog ops Q rest (a.put o.dst v') w') : wpList Try.prog ops Q (o :: rest) a w := by
  obtain ⟨i0, hi0, hz0, hz1, hzb⟩ := info_parts info_step
  rcases hk with rfl | ⟨ad, m, c, rfl⟩
  · have := hm.len
    have hnil : l = [] := List.eq_nil_of_length_eq_zero this.symm
    subst hnil
    refine wpList_append_rowNilO hgd s x ho i0 Try.underlying22 hi0 O hs hx ?_
    exact h v w (by simpa using O)
  · have := hm.len
    subst this
    exact wpList_append_rowO hgd s x ho i0 _ 56 Try.underlying22 hi0 hz0 hz1 hzb rfl (by omega) O hs ad l.length c (l.flatMap St.cell) hx (flat5_len l) hm.cells (flat5_one l) hlen (by omega) h
def c15 : List Value := [.int .u8 2, .int .i64 1, .int .u8 0, .int .i64 0, .slice none 0 0, .int .u8 1, .int .i64 0, .int .u8 0, .int .i64 0, .slice none 0 0, .int .u8 3, .int .i64 0, .int .u8 0, .int .i64 0, .slice none 0 0]
theorem wpList_append_threeO {w0 w : World} {L : List Piece} {ops : Array Oper} {rest : List Oper} {o : Oper} {a : Act} {Q : Exit → Act → World → Prop} (hgd : o.guard = none) (s x : Operand)
    (ho : o.op = .call { callee := .builtin .append, args := #[s, x], argTypes := #[22, 22] })
    {v : Value} {n : Nat} {xs : List Value} (O : Own w0 w (rowv 33 5 v n xs :: L)) (hs : a.eval s = v) (hx : a.eval x = .slice (some ⟨w.heap.size, 0, none⟩) 3 3) (hlen : n + 3 ≤ 100000000)
    (h : ∀ v' w', Own w0 w' (rowv 33 5 v' (n + 3) (xs ++ c15) :: L) → wpList Try.prog ops Q rest (a.put o.dst v') w') : wpList Try.prog ops Q (o :: rest) a (w.alloc (.cells c15.toArray 33)) := by
  obtain ⟨i0, hi0, hz0, hz1, hzb⟩ := info_parts info_step
  refine wpList_append_rowO hgd s x ho i0 _ 56 Try.underlying22 hi0 hz0 hz1 hzb rfl (by omega) (O.alloc _) hs ⟨w.heap.size, 0, none⟩ 3 3 c15 hx rfl (fun j u hu => ?_) (fun u hu => ?_) hlen (by omega) h
  · rw [show (⟨w.heap.size, 0, none⟩ : Addr).add j = ⟨w.heap.size, j, none⟩ from by unfold Addr.add; split <;> simp_all, cell_at (heap_alloc_new _ _)]
    simpa using hu
  · exact (show ∀ u ∈ c15, u.oneCell' = true from by decide) u hu
def stFail : St := ⟨2, 1, 0, 0, none, 0, []⟩
def stSync : St := ⟨1, 0, 0, 0, none, 0, []⟩
def stBoot : St := ⟨3, 0, 0, 0, none, 0, []⟩
def stWrite : St := ⟨0, 0, 99, 0, none, 0, []⟩
/-- the steps that are done -/
def eff (l : List St) (ka : Option Addr) (kc : Nat) (keep : List Int) : List St := l ++ [stFail, stWrite, ⟨3, 0, 0, 0, ka, kc, keep⟩]
def rowSt (l : List St) : List St := l ++ [stFail, stSync, stBoot]
def EndI (l : Nat) (m : Dk) (i : Nat) : Prop := (i = l + 1 → m.off = true ∨ m.left = 1) ∧ (i = l + 2 → m.off = true) ∧ (i = l + 3 → m.off = false ∧ ∀ k, m.was k = none)
theorem rowSt_cells (l : List St) : (rowSt l).flatMap St.cell = l.flatMap St.cell ++ c15 := by unfold rowSt; rw [List.flatMap_append]; rfl
theorem Own.rowStep {w0 w : World} {L : List Piece} {a : Option Addr} {n cap : Nat} {sts : List St} (O : Own w0 w (rowv 33 5 (.slice a n cap) n (sts.flatMap St.cell) :: L)) (i : Nat) (hi : i < sts.length) :
    ∃ g, a = some ⟨g, 0, none⟩ ∧ w.cell? ⟨g, i * 5, none⟩ = some (.int .u8 (sts[i]'hi).what) ∧ w.cell? ⟨g, i * 5 + 1, none⟩ = some (.int .i64 (sts[i]'hi).at0) ∧ w.cell? ⟨g, i * 5 + 2, none⟩ = some (.int .u8 ((sts[i]'hi).by_.toNat : Int)) ∧
      w.cell? ⟨g, i * 5 + 3, none⟩ = some (.int .i64 (sts[i]'hi).odd) ∧ w.cell? ⟨g, i * 5 + 4, none⟩ = some (.slice (sts[i]'hi).ka (sts[i]'hi).keep.length (sts[i]'hi).kc) := by
  have hl := flat5_len sts
  have key : ∀ j, j < 5 → ∃ g, a = some ⟨g, 0, none⟩ ∧ w.cell? ⟨g, i * 5 + j, none⟩ = (sts[i]'hi).cell[j]? := by
    intro j hj
    have hb : i * 5 + j < (sts.flatMap St.cell).length := by omega
    obtain ⟨-, g, e, c, -⟩ := O.rowvAt (i * 5 + j) hb
    refine ⟨g, e, ?_⟩
    rw [c, ← flat5 sts i j hi hj, List.getElem?_eq_getElem hb]
  obtain ⟨g, e, c0⟩ := key 0 (by omega)
  obtain ⟨g1, e1, c1⟩ := key 1 (by omega)
  obtain ⟨g2, e2, c2⟩ := key 2 (by omega)
  obtain ⟨g3, e3, c3⟩ := key 3 (by omega)
  obtain ⟨g4, e4, c4⟩ := key 4 (by omega)
  subst e
  simp only [Option.some.injEq, Addr.mk.injEq, and_true] at e1 e2 e3 e4
  subst e1 e2 e3 e4
  exact ⟨_, rfl, c0, c1, c2, c3, c4⟩
theorem rowSt_len (l : List St) : (rowSt l).length = l.length + 3 := by simp [rowSt]
theorem eff_at {l : List St} {i : Nat} (hi : i < l.length + 3) (ka : Option Addr) (kc : Nat) (keep : List Int) :
    (i ≠ l.length + 1 → i ≠ l.length + 2 → (rowSt l)[i]? = (eff l ka kc keep)[i]?) ∧ (i = l.length + 1 → (eff l ka kc keep)[i]? = some stWrite) ∧ (i = l.length + 2 → (eff l ka kc keep)[i]? = some ⟨3, 0, 0, 0, ka, kc, keep⟩ ∧ (rowSt l)[i]? = some stBoot) := by
  unfold rowSt eff
  refine ⟨fun h1 h2 => ?_, fun h => ?_, fun h => ?_⟩
  · by_cases hl : i < l.length
    · rw [List.getElem?_append_left hl, List.getElem?_append_left hl]
    · obtain rfl : i = l.length := by omega
      simp
  · subst h; simp
  · subst h; simp
theorem eff_l {l : List St} (ka : Option Addr) (kc : Nat) (keep : List Int) {s : St} (h : (eff l ka kc keep)[l.length]? = some s) : s = stFail := by
  simp [eff] at h; exact h.symm
theorem eff_wf {l : List St} (hw : ∀ s ∈ l, s.Wf) {ka : Option Addr} {kc : Nat} {keep : List Int} (hk : keep.length ≤ maxLen) (hz : ∀ z ∈ keep, (Lit.int .i64 z).wf = true) {i : Nat} {s : St} (h : (eff l ka kc keep)[i]? = some s) : s.Wf := by
  have hm := List.mem_of_getElem? h
  unfold eff at hm
  rcases List.mem_append.1 hm with hm | hm
  · exact hw s hm
  · simp at hm
    rcases hm with rfl | rfl | rfl
    · exact ⟨by decide, by decide, by decide, by decide, by simp [stFail]⟩
    · exact ⟨by decide, by decide, by decide, by decide, by simp [stWrite]⟩
    · exact ⟨⟨by show (0 : Int) ≤ 3; omega, by show (3 : Int) ≤ 255; omega⟩, (by decide : (Lit.int .i64 0).wf = true), (by decide : (Lit.int .i64 0).wf = true), hk, hz⟩
theorem eff_sl {w : World} {v : Value} {l : List St} {G : List Nat} (h : StepsR w v l G) {ka : Option Addr} {kc : Nat} {keep : List Int} {G2 : List Nat} (h2 : SlR w (.slice ka keep.length kc) (keep.map (Value.int .i64)) G2) {i : Nat} {s : St} (hs : (eff l ka kc keep)[i]? = some s) :
    ∃ G', SlR w (.slice s.ka s.keep.length s.kc) (s.keep.map (Value.int .i64)) G' := by
  have hm := List.mem_of_getElem? hs
  unfold eff at hm
  rcases List.mem_append.1 hm with hm | hm
  · obtain ⟨_, _, _, h1, _⟩ := h
    exact ⟨_, h1 s hm⟩
  · simp at hm
    rcases hm with rfl | rfl | rfl
    · exact ⟨[], none, 0, rfl, fun h => by simp [stFail] at h⟩
    · exact ⟨[], none, 0, rfl, fun h => by simp [stWrite] at h⟩
    · exact ⟨_, h2⟩
theorem stWrite_len : stWrite.bytes.length = 128 := by kernel_rfl
theorem EndI.step {l i : Nat} {m : Dk} {s : St} (h : EndI l m i) (hok : m.Ok) (hn : 0 < m.n) (h1 : i = l → s = stFail) (h2 : i = l + 1 → s = stWrite) (h3 : i = l + 2 → s.what = 3) : EndI l (m.step s) (i + 1) := by
  refine ⟨fun e => ?_, fun e => ?_, fun e => ?_⟩
  · rw [h1 (by omega)]
    right; rfl
  · have e2 : i = l + 1 := by omega
    rw [h2 e2]
    show (m.write 0 stWrite.bytes).1.off = true
    unfold Dk.write
    rcases Bool.eq_false_or_eq_true m.off with ho | ho
    · rw [if_pos ho]; exact ho
    · have hl : m.left = 1 := (h.1 e2).resolve_left (by simp [ho])
      rw [if_neg (by simp [ho]), if_neg (by have := stWrite_len; omega)]
      simp [Dk.did, Dk.put, hl]
  · have e2 : i = l + 2 := by omega
    have ho := h.2.1 e2
    have : m.step s = (m.boot s.keep).1 := by
      unfold Dk.step
      rw [if_neg (by rw [h3 e2]; omega), if_neg (by rw [h3 e2]; omega), if_neg (by rw [h3 e2]; omega), if_pos (h3 e2)]
    rw [this]
    exact ⟨boot_on m ho _, boot_was hok ho _⟩
theorem EndI.start (l : Nat) (m : Dk) : EndI l m 0 := ⟨fun h => by omega, fun h => by omega, fun h => by omega⟩
theorem write_cases (m : Dk) (k : Int) (s : List UInt8) : (∃ er, m.write k s = (m, er) ∧ er ≠ 0) ∨ ∃ j : Nat, k = (j : Int) ∧ j < m.n ∧ m.write k s = ((m.put j s).did, 0) := by
  unfold Dk.write
  split
  · exact .inl ⟨_, rfl, by omega⟩
  split
  · exact .inl ⟨_, rfl, by omega⟩
  · right
    refine ⟨k.toNat, by omega, by omega, ?_⟩
    rw [show ((k.toNat : Nat) : Int) = k from by omega]
end Go.Proofs.Ytobflkddkplpiaa
