/- slices of whatever elements of the call's own: made, appended to, read, stored into. -/
import Derived.Test.YtnlppcjfpmnahaaGreatDoorPack
import Derived.OwnWalk
namespace Go.Proofs.YtnlppcjfpmnahaaGreatDoor
set_option linter.all false
open Go.RowKit

/-- a slice of the call's own, of n elements of size cells each; xs: all the cells -/
def rowv (e : TypeId) (size : Nat) (v : Value) (n : Nat) (xs : List Value) : Piece where
  holds B w F := w.ownsRow B e size v n xs ∧ F = v.ownBlock.toList
  keep := by
    rintro B w w' F S ⟨h1, rfl⟩ hc hS
    exact ⟨hc.row h1 (fun k hk => hS k (by simp [hk])), rfl⟩
  lt := by
    rintro B w F ⟨h1, rfl⟩ k hk
    exact h1.lt k (by simpa using hk)
section
variable {w0 w : World} {L : List Piece} {e : TypeId} {size n : Nat} {v : Value} {xs : List Value}
theorem Own.rowvRow (h : Own w0 w (rowv e size v n xs :: L)) : w.ownsRow w0.heap.size e size v n xs := by
  obtain ⟨F, h, _⟩ := h.head; exact h
theorem Own.rowvLen (h : Own w0 w (rowv e size v n xs :: L)) : xs.length = n * size := h.rowvRow.1
theorem Own.newRowv {w' : World} (h : Own w0 w L) (k : Chg [] w w') (hv : w'.ownsRow w.heap.size e size v n xs) : Own w0 w' (rowv e size v n xs :: L) :=
  h.new k (rowv e size v n xs) ⟨ownsRow_mono hv h.size, rfl⟩ (fun i hi => (hv.lt i (by simpa using hi)).1)
theorem Own.emptyRowv (h : Own w0 w L) (e : TypeId) (size : Nat) : Own w0 (w.alloc (.cells #[] e)) (rowv e size (.slice (some ⟨w.heap.size, 0, none⟩) 0 0) 0 [] :: L) :=
  h.new ((Chg.refl [] w).alloc _) (rowv e size _ 0 []) (F := [w.heap.size]) ⟨World.ownsRow_made w #[] 0 h.size (by unfold maxLen; omega) (by simp), rfl⟩ (by simp)
theorem Own.rowvShape (h : Own w0 w (rowv e size v n xs :: L)) : ∃ a cap, v = .slice a n cap := by
  rcases h.rowvRow.2 with ⟨rfl, rfl⟩ | ⟨g, cap, cur, rfl, _⟩
  · exact ⟨none, 0, rfl⟩
  · exact ⟨_, _, rfl⟩
theorem Own.rowvAt {a : Option Addr} {m cap : Nat} (h : Own w0 w (rowv e size (.slice a m cap) n xs :: L)) (k : Nat) (hk : k < xs.length) : m = n ∧ ∃ g, a = some ⟨g, 0, none⟩ ∧ w.cell? ⟨g, k, none⟩ = some xs[k] ∧ w.frozen? ⟨g, k, none⟩ = false := by
  have r := h.rowvRow
  rcases r.2 with ⟨hv, hn⟩ | ⟨g, cap', cur, hv, _⟩
  · have := r.1
    rw [hn, Nat.zero_mul] at this
    omega
  · simp only [Value.slice.injEq] at hv
    obtain ⟨rfl, rfl, rfl⟩ := hv
    have hk2 : k < m * size := by have := r.1; omega
    exact ⟨rfl, g, rfl, (r.cellAt k hk2).trans (by simp [hk]), r.frozenAt k⟩
theorem Own.rowvStore {g m cap : Nat} (h : Own w0 w (rowv e size (.slice (some ⟨g, 0, none⟩) m cap) n xs :: L)) (k : Nat) (u : Value) :
    Own w0 (w.setCell ⟨g, k, none⟩ u) (rowv e size (.slice (some ⟨g, 0, none⟩) m cap) n (xs.set k u) :: L) := by
  obtain ⟨a, c, hv⟩ := h.rowvShape
  simp only [Value.slice.injEq] at hv
  obtain ⟨-, rfl, -⟩ := hv
  obtain ⟨F, ⟨r, rfl⟩, q⟩ := h.open
  obtain ⟨h1, h2⟩ := r.stored k u
  exact q (w.setCell ⟨g, k, none⟩ u) (rowv e size (.slice (some ⟨g, 0, none⟩) m cap) m (xs.set k u)) [g] ⟨h1, rfl⟩ ((Chg.refl _ _).setB (by simp [Value.ownBlock]) _ _) (fun i hi => .inl (by simpa [Value.ownBlock] using hi))
variable {ops : Array Oper} {rest : List Oper} {o : Oper} {a : Act} {Q : Exit → Act → World → Prop}
theorem wpList_append_rowO {t : TypeId} (hgd : o.guard = none) (s x : Operand)
    (ho : o.op = .call { callee := .builtin .append, args := #[s, x], argTypes := #[t, t] })
    (i : TypeInfo) (z : Value) (bytes : Nat) (ht : Tryz.prog.underlying t = some (.slice e)) (hi : Tryz.prog.info? e = some i) (hz : i.zero = some z)
    (hsize : i.size = size) (hby : i.bytes = bytes) (hzs : z.cells.size = size) (hsz : 0 < size)
    (O : Own w0 w (rowv e size v n xs :: L)) (hs : a.eval s = v)
    (ad : Addr) (m c : Nat) (news : List Value) (hx : a.eval x = .slice (some ad) m c) (hl : news.length = m * size) (hnews : ∀ j u, news[j]? = some u → w.cell? (ad.add j) = some u) (h1 : ∀ u ∈ news, u.oneCell' = true)
    (h63 : n + m ≤ 100000000) (hb1 : bytes ≤ 1000000)
    (h : ∀ v' w', Own w0 w' (rowv e size v' (n + m) (xs ++ news) :: L) → wpList Tryz.prog ops Q rest (a.put o.dst v') w') : wpList Tryz.prog ops Q (o :: rest) a w := by
  obtain ⟨F, ⟨row, rfl⟩, q⟩ := O.open
  refine wpList_append_new w hgd s x t ho w0.heap.size e i z size bytes ht hi hz hsize hby hzs hsz v n xs hs row ad m c news hx hl hnews h1 (by unfold maxLen; omega) ?_ O.size ?_
  · exact Nat.le_trans (Nat.mul_le_mul h63 hb1) (by omega)
  intro v' w' h1 h2 h3
  refine h v' w' (q w' (rowv e size v' (n + m) (xs ++ news)) _ ⟨h1, rfl⟩ ((Chg.refl _ w).grown h2 (fun k hk _ => by simp [hk])) (fun i hi => ?_))
  rcases h3 i (by simpa using hi) with h4 | h4
  · exact .inl (by simp [h4])
  · exact .inr h4
theorem wpList_append_rowNilO {t : TypeId} (hgd : o.guard = none) (s x : Operand)
    (ho : o.op = .call { callee := .builtin .append, args := #[s, x], argTypes := #[t, t] })
    (i : TypeInfo) (ht : Tryz.prog.underlying t = some (.slice e)) (hi : Tryz.prog.info? e = some i)
    (O : Own w0 w (rowv e size v n xs :: L)) (hs : a.eval s = v) (hx : a.eval x = .slice none 0 0)
    (h : wpList Tryz.prog ops Q rest (a.put o.dst v) w) : wpList Tryz.prog ops Q (o :: rest) a w :=
  wpList_append_own_none hgd s x t ho w0.heap.size e i size ht hi v n _ hs O.rowvRow hx h
theorem wpList_make_rowO {t : TypeId} (hg : o.guard = none) (l : Operand) (hop : o.op = Op.makeSlice t l l) (i : TypeInfo) (z : Value) (ht : Tryz.prog.underlying t = some (.slice e)) (hi : Tryz.prog.info? e = some i) (hz : i.zero = some z)
    (hsize : i.size = size) (hb : i.bytes ≤ 1000) (n : Nat) (hl : a.eval l = .int .i64 (n : Int)) (hn : n ≤ 100000000) (O : Own w0 w L)
    (h : ∀ g w', Own w0 w' (rowv e size (.slice (some ⟨g, 0, none⟩) n n) n (madeCells z.cells (n * size)).toList :: L) → wpList Tryz.prog ops Q rest (a.put o.dst (.slice (some ⟨g, 0, none⟩) n n)) w') : wpList Tryz.prog ops Q (o :: rest) a w := by
  refine wpList_make_full w hg l l t hop w.heap.size e i z size ht hi hz hsize .i64 .i64 n n n hl hl rfl rfl (Nat.le_trans (Nat.mul_le_mul hb hn) (by omega)) (by unfold maxLen; omega) (Nat.le_refl _) ?_
  intro w' row gr
  exact h _ w' (O.newRowv ((Chg.refl [] w).grown gr (fun k hk _ => by cases hk)) row)
end
end Go.Proofs.YtnlppcjfpmnahaaGreatDoor
