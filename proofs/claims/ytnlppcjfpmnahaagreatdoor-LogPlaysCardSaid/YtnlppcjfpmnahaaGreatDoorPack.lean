/- Pieces of pieces; bytes of the call's own behind a slice that may be nil. -/
import Derived.Test.YtnlppcjfpmnahaaGreatDoorMake
import Derived.Laws.CopyOwn
import Derived.Lib.LazyBuf
import Derived.Laws.BytesString
import Derived.Deep.RegionLaw
namespace Go.Proofs.YtnlppcjfpmnahaaGreatDoor
set_option linter.all false
open Go.RowKit

/-- two pieces as one -/
def both (c d : Piece) : Piece where
  holds B w F := ∃ F1 F2, c.holds B w F1 ∧ d.holds B w F2 ∧ (∀ k, k ∈ F1 → k ∉ F2) ∧ F = F1 ++ F2
  keep := by
    rintro B w w' F S ⟨F1, F2, h1, h2, h3, rfl⟩ hc hS
    exact ⟨F1, F2, c.keep h1 hc (fun k hk => hS k (by simp [hk])), d.keep h2 hc (fun k hk => hS k (by simp [hk])), h3, rfl⟩
  lt := by
    rintro B w F ⟨F1, F2, h1, h2, h3, rfl⟩ k hk
    rcases List.mem_append.1 hk with hk | hk
    · exact c.lt h1 k hk
    · exact d.lt h2 k hk
def ex {α : Type} (f : α → Piece) : Piece where
  holds B w F := ∃ a, (f a).holds B w F
  keep := by rintro B w w' F S ⟨a, h⟩ hc hS; exact ⟨a, (f a).keep h hc hS⟩
  lt := by rintro B w F ⟨a, h⟩; exact (f a).lt h
def fact (p : Prop) : Piece where
  holds B w F := p ∧ F = []
  keep := fun h _ _ => h
  lt := by rintro B w F ⟨_, rfl⟩ k hk; cases hk
theorem Own.pack {w0 w : World} {L : List Piece} {c d : Piece} (h : Own w0 w (c :: d :: L)) : Own w0 w (both c d :: L) := by
  obtain ⟨hc, U, F1, V, h1, ⟨F2, V2, h2, h3, h4, rfl⟩, h5, rfl⟩ := h
  exact ⟨hc, _, F1 ++ F2, V2, ⟨F1, F2, h1, h2, fun k hk hk' => h5 k hk (by simp [hk']), rfl⟩, h3, fun k hk hk' => by
    rcases List.mem_append.1 hk with hk | hk
    · exact h5 k hk (by simp [hk'])
    · exact h4 k hk hk', rfl⟩
theorem Own.unpack {w0 w : World} {L : List Piece} {c d : Piece} (h : Own w0 w (both c d :: L)) : Own w0 w (c :: d :: L) := by
  obtain ⟨hc, U, F, V, ⟨F1, F2, h1, h2, h3, rfl⟩, h4, h5, rfl⟩ := h
  exact ⟨hc, _, F1, F2 ++ V, h1, ⟨F2, V, h2, h4, fun k hk hk' => h5 k (by simp [hk]) hk', rfl⟩, fun k hk hk' => by
    rcases List.mem_append.1 hk' with hk' | hk'
    · exact h3 k hk hk'
    · exact h5 k (by simp [hk]) hk', rfl⟩
theorem Own.exI {w0 w : World} {L : List Piece} {α : Type} {f : α → Piece} (a : α) (h : Own w0 w (f a :: L)) : Own w0 w (ex f :: L) := by
  obtain ⟨hc, U, F, V, h1, h2⟩ := h
  exact ⟨hc, U, F, V, ⟨a, h1⟩, h2⟩
theorem Own.exE {w0 w : World} {L : List Piece} {α : Type} {f : α → Piece} (h : Own w0 w (ex f :: L)) : ∃ a, Own w0 w (f a :: L) := by
  obtain ⟨hc, U, F, V, ⟨a, h1⟩, h2⟩ := h
  exact ⟨a, hc, U, F, V, h1, h2⟩
theorem Own.factI {w0 w : World} {L : List Piece} {p : Prop} (hp : p) (h : Own w0 w L) : Own w0 w (fact p :: L) := by
  obtain ⟨hc, U, h⟩ := h
  exact ⟨hc, U, [], U, ⟨hp, rfl⟩, h, by simp, rfl⟩
theorem Own.factE {w0 w : World} {L : List Piece} {p : Prop} (h : Own w0 w (fact p :: L)) : p ∧ Own w0 w L := by
  obtain ⟨hc, U, F, V0, ⟨hp, rfl⟩, h1, _, rfl⟩ := h
  exact ⟨hp, hc, _, h1⟩

/-- a slice of bytes of the call's own, or nil -/
def byt (v : Value) (l : List UInt8) : Piece where
  holds B w F := (v = .slice none 0 0 ∧ l = [] ∧ F = []) ∨ ∃ g cap, v = .slice (some ⟨g, 0, none⟩) l.length cap ∧ (bytes g l).holds B w F
  keep := by
    rintro B w w' F S (h | ⟨g, cap, hv, h⟩) hc hS
    · exact .inl h
    · exact .inr ⟨g, cap, hv, (bytes g l).keep h hc hS⟩
  lt := by
    rintro B w F (⟨_, _, rfl⟩ | ⟨g, cap, hv, h⟩) k hk
    · cases hk
    · exact (bytes g l).lt h k hk
theorem Own.bytNil {w0 w : World} {L : List Piece} (h : Own w0 w L) : Own w0 w (byt (.slice none 0 0) [] :: L) :=
  h.new (Chg.refl _ _) (byt _ _) (F := []) (.inl ⟨rfl, rfl, rfl⟩) (by simp)
theorem Own.bytOf {w0 w : World} {L : List Piece} {g : Nat} {l : List UInt8} (h : Own w0 w (bytes g l :: L)) (cap : Nat) : Own w0 w (byt (.slice (some ⟨g, 0, none⟩) l.length cap) l :: L) := by
  obtain ⟨hc, U, F, V, h1, h2⟩ := h
  exact ⟨hc, U, F, V, .inr ⟨g, cap, rfl, h1⟩, h2⟩
theorem Own.bytCase {w0 w : World} {L : List Piece} {v : Value} {l : List UInt8} (h : Own w0 w (byt v l :: L)) : (v = .slice none 0 0 ∧ l = []) ∨ ∃ g cap, v = .slice (some ⟨g, 0, none⟩) l.length cap ∧ Own w0 w (bytes g l :: L) := by
  obtain ⟨hc, U, F, V, (⟨h1, h2, h3⟩ | ⟨g, cap, h1, h2⟩), h3⟩ := h
  · exact .inl ⟨h1, h2⟩
  · exact .inr ⟨g, cap, h1, hc, U, F, V, h2, h3⟩
theorem Own.bytStr {w0 w : World} {L : List Piece} {v : Value} {l : List UInt8} (h : Own w0 w (byt v l :: L)) : (convert 57 9 v).run Tryz.prog w = .ok (.string ⟨l.toArray⟩) w := by
  rcases h.bytCase with ⟨rfl, rfl⟩ | ⟨g, cap, rfl, h2⟩
  · rw [run_convert_bytes_string w 57 9 5 none 0 0 Tryz.underlying57 Tryz.underlying5 Tryz.underlying9]
    rfl
  · exact h2.fromBytes cap

def setsL (l : List UInt8) : Nat → List UInt8 → List UInt8
  | _, [] => l
  | o, c :: r => setsL (l.set o c) (o + 1) r
theorem setsL_eq : ∀ (cs l : List UInt8) (o : Nat), o + cs.length ≤ l.length → setsL l o cs = l.take o ++ cs ++ l.drop (o + cs.length)
  | [], l, o, h => by simp [setsL]
  | c :: r, l, o, h => by
    have h' : o < l.length := by simp at h; omega
    rw [setsL, setsL_eq r (l.set o c) (o + 1) (by simp at h ⊢; omega), List.take_succ_eq_append_getElem (by simpa using h')]
    simp [List.take_set, List.drop_set]
    rw [show o + 1 + r.length = o + (r.length + 1) by omega]
    rw [List.set_eq_of_length_le (by simp; omega), if_pos (by omega)]
theorem setsL_all {cs l : List UInt8} (h : cs.length = l.length) : setsL l 0 cs = cs := by
  rw [setsL_eq _ _ _ (by omega)]; simp [h]
theorem Own.setBytes {w0 : World} {L : List Piece} {g : Nat} : ∀ (cs : List UInt8) {w : World} {l : List UInt8} (o : Nat), Own w0 w (bytes g l :: L) → Own w0 (w.setCells g o (cs.map fun x => Value.int .u8 (x.toNat : Int))) (bytes g (setsL l o cs) :: L)
  | [], w, l, o, h => h
  | c :: r, w, l, o, h => by
    have := Own.setBytes r (o + 1) (h.setByte o c)
    exact this
theorem sizeOf_u8 (w : World) : (Go.sizeOf 5).run Tryz.prog w = .ok 1 w := by
  obtain ⟨i0, hi, hz0, hz1, hz2⟩ := info_parts info_u8
  simp [Go.sizeOf, typeInfo, hi, hz1, Result.andThen, Sem.run_bind, Sem.run_pure]
theorem info_u8s : (Tryz.prog.info? 5).map (·.size) = some 1 := by kernel_rfl
theorem run_copy_strO {w0 w : World} {L : List Piece} {g cap : Nat} {zs l : List UInt8} (O : Own w0 w (bytes g zs :: L)) (hl : l.length = zs.length) (ty : TypeId) :
    ∃ w', (Builtin.copy_ #[57, 9] ty #[.slice (some ⟨g, 0, none⟩) zs.length cap, .string ⟨l.toArray⟩]).run Tryz.prog w = .ok (goInt l.length) w' ∧ Own w0 w' (bytes g l :: L) := by
  have hsz : (⟨l.toArray⟩ : ByteArray).size = l.length := by simp [ByteArray.size]
  have h := run_copy_string (P := Tryz.prog) w 57 9 ty 5 g 0 zs.length cap ⟨l.toArray⟩ Tryz.underlying57 sizeOf_u8 (by rw [hsz]; omega)
    (fun j hj => by rw [Nat.zero_add, (O.byteCell j (by rw [hsz] at hj; omega)).1]; rfl) (fun j hj => by rw [Nat.zero_add]; exact (O.byteCell j (by rw [hsz] at hj; omega)).2)
  rw [hsz] at h
  refine ⟨_, h, ?_⟩
  have := O.setBytes l 0
  rw [setsL_all hl] at this
  exact this
theorem run_copy_bytO {w0 w : World} {L : List Piece} {g cap : Nat} {zs l : List UInt8} {a : Option Addr} {n cp : Nat} (O : Own w0 w (bytes g zs :: byt (.slice a n cp) l :: L)) (hl : l.length = zs.length) (ty : TypeId) :
    ∃ w', (Builtin.copy_ #[57, 57] ty #[.slice (some ⟨g, 0, none⟩) zs.length cap, .slice a n cp]).run Tryz.prog w = .ok (goInt l.length) w' ∧ Own w0 w' (bytes g l :: byt (.slice a n cp) l :: L) := by
  rcases (O.pick 1).bytCase with ⟨h1, h2⟩ | ⟨h, cp', h1, O2⟩
  · subst h2
    simp only [Value.slice.injEq] at h1
    obtain ⟨rfl, rfl, rfl⟩ := h1
    refine ⟨w, run_copy_none (P := Tryz.prog) w 57 57 ty 5 _ _ _ _ _ _ Tryz.underlying57 info_u8s (by simp), ?_⟩
    rw [List.eq_nil_of_length_eq_zero hl.symm] at O
    exact O
  · simp only [Value.slice.injEq] at h1
    obtain ⟨rfl, rfl, rfl⟩ := h1
    have hn : ∀ j, j < l.length → w.cell? ((⟨h, 0, none⟩ : Addr).add j) = some (.int .u8 (((l[j]?).getD 0).toNat : Int)) := by
      intro j hj
      rw [show (⟨h, 0, none⟩ : Addr).add j = ⟨h, j, none⟩ from by unfold Addr.add; split <;> simp_all, (O2.byteCell j hj).1]
      simp [hj]
    have r := run_copy_cells (P := Tryz.prog) w 57 57 ty 5 g 0 zs.length cap ⟨h, 0, none⟩ l.length cp (l.map fun x => Value.int .u8 (x.toNat : Int)) Tryz.underlying57 info_u8s (by rw [← hl]; simp)
      (by intro j v hj
          have hj' : j < l.length := by
            rcases Nat.lt_or_ge j l.length with h' | h'
            · exact h'
            · rw [List.getElem?_eq_none (by simpa using h')] at hj; cases hj
          rw [hn j hj']
          simp [hj'] at hj
          simp [hj', hj])
      (fun j hj => by rw [Nat.zero_add, (O.byteCell j (by simp at hj; omega)).1]; rfl) (fun j hj => by rw [Nat.zero_add]; exact (O.byteCell j (by simp at hj; omega)).2) (by intro v hv; obtain ⟨x, _, rfl⟩ := List.mem_map.1 hv; rfl)
    rw [List.length_map] at r
    refine ⟨_, r, ?_⟩
    have := O.setBytes l 0
    rw [setsL_all hl] at this
    exact this
theorem run_makeO {w0 w : World} {L : List Piece} (O : Own w0 w L) (n : Nat) (hn : n ≤ 100000000) :
    ∃ g w', (Instr.makeSlice 57 (.int .i64 (n : Int)) (.int .i64 (n : Int))).run Tryz.prog w = .ok (.slice (some ⟨g, 0, none⟩) n n) w' ∧ Own w0 w' (bytes g (List.replicate n 0) :: L) := by
  obtain ⟨i0, hi, hz0, hz1, hz2⟩ := info_parts info_u8
  obtain ⟨w', hrun, row, gr⟩ := run_make_full (P := Tryz.prog) w w.heap.size 57 5 i0 (.int .u8 0) 1 Tryz.underlying57 hi hz0 hz1 .i64 .i64 n (by rw [hz2]; omega) (by unfold maxLen; omega) (Nat.le_refl _)
  refine ⟨_, w', hrun, ?_⟩
  rcases row.2 with ⟨hv, _⟩ | ⟨g, cap, cur, hv, hb, hh, hnc, hcm, hcs, htake⟩
  · cases hv
  simp only [Value.slice.injEq, Option.some.injEq, Addr.mk.injEq] at hv
  obtain ⟨⟨rfl, _⟩, _, rfl⟩ := hv
  refine O.new ((Chg.refl [] w).grown gr (fun k hk _ => by cases hk)) (bytes w.heap.size (List.replicate n 0)) (F := [w.heap.size]) ⟨⟨cur, (0, 0), hh, fun j hj => ?_, fun j hj => by simp⟩, O.size, rfl⟩ (by simp)
  have hj' : j < n := by simpa using hj
  have h1 : cur.toList[j]? = some (.int .u8 0) := by
    have : (cur.toList.take (n * 1))[j]? = cur.toList[j]? := by rw [List.getElem?_take]; simp [hj']
    rw [← this, htake]
    simp [madeCells, hj', Value.cells]
    rw [Nat.mod_one]; rfl
  simpa using h1
theorem step_copyO {ops : Array Oper} {o : Oper} {a : Act} {w w' : World} {K : Act → World → Prop} {Q : Exit → Act → World → Prop} {E : Prop} {d s : Operand} {dT sT : TypeId}
    (hg : o.guard = none) (hop : o.op = Op.call { callee := Callee.builtin Builtin.copy, args := #[d, s], argTypes := #[dT, sT] }) {dv sv : Value} {n : Nat} (hd : a.eval d = dv) (hs : a.eval s = sv)
    (hr : (Builtin.copy_ #[dT, sT] o.type #[dv, sv]).run Tryz.prog w = .ok (goInt n) w') (hK : K (a.put o.dst (goInt n)) w') :
    if Region.wanted o (yielded ops a.tmps) = true then Oper.wp Tryz.prog o a w K Q else E := by
  have hw : Region.wanted o (yielded ops a.tmps) = true := by simp [Region.wanted, hg]
  rw [if_pos hw]
  unfold Oper.wp
  simp [execOp, hop, resolve, invoke, builtin, hd, hs, hr, Result.andThen]
  exact hK
theorem wpList_copy_strO {w0 w : World} {L : List Piece} {ops : Array Oper} {rest : List Oper} {o : Oper} {a : Act} {Q : Exit → Act → World → Prop} (hgd : o.guard = none) (d s : Operand)
    (ho : o.op = .call { callee := .builtin .copy, args := #[d, s], argTypes := #[57, 9] }) (g n cap : Nat) (zs l : List UInt8) (O : Own w0 w (bytes g zs :: L)) (hd : a.eval d = .slice (some ⟨g, 0, none⟩) n cap) (hs : a.eval s = .string ⟨l.toArray⟩) (hn : n = zs.length) (hl : l.length = zs.length)
    (h : ∀ w', Own w0 w' (bytes g l :: L) → wpList Tryz.prog ops Q rest (a.put o.dst (goInt l.length)) w') : wpList Tryz.prog ops Q (o :: rest) a w := by
  subst hn
  obtain ⟨w', hr, O'⟩ := run_copy_strO (cap := cap) O hl o.type
  refine wpList_plain hgd fun K hK => ?_
  unfold Oper.wp
  simp [execOp, ho, resolve, invoke, builtin, hd, hs, hr, Result.andThen]
  exact hK _ _ (h w' O')
theorem wpList_copy_bytO {w0 w : World} {L : List Piece} {ops : Array Oper} {rest : List Oper} {o : Oper} {a : Act} {Q : Exit → Act → World → Prop} (hgd : o.guard = none) (d s : Operand)
    (ho : o.op = .call { callee := .builtin .copy, args := #[d, s], argTypes := #[57, 57] }) (g n cap : Nat) (zs l : List UInt8) (x : Option Addr) (m cp : Nat) (O : Own w0 w (bytes g zs :: byt (.slice x m cp) l :: L)) (hd : a.eval d = .slice (some ⟨g, 0, none⟩) n cap) (hs : a.eval s = .slice x m cp) (hn : n = zs.length) (hl : l.length = zs.length)
    (h : ∀ w', Own w0 w' (bytes g l :: byt (.slice x m cp) l :: L) → wpList Tryz.prog ops Q rest (a.put o.dst (goInt l.length)) w') : wpList Tryz.prog ops Q (o :: rest) a w := by
  subst hn
  obtain ⟨w', hr, O'⟩ := run_copy_bytO (cap := cap) O hl o.type
  refine wpList_plain hgd fun K hK => ?_
  unfold Oper.wp
  simp [execOp, ho, resolve, invoke, builtin, hd, hs, hr, Result.andThen]
  exact hK _ _ (h w' O')
/-- make([]byte, n), the zeros under a name -/
theorem wpList_make_named {w0 w : World} {L : List Piece} {ops : Array Oper} {rest : List Oper} {o : Oper} {a : Act} {Q : Exit → Act → World → Prop} (hg : o.guard = none) (l : Operand)
    (hop : o.op = Op.makeSlice 57 l l) (n : Nat) (hl : a.eval l = .int .i64 (n : Int)) (hn : n ≤ 100000000) (zs : List UInt8) (hz : zs = List.replicate n 0) (O : Own w0 w L)
    (h : ∀ g w', Own w0 w' (bytes g zs :: L) → wpList Tryz.prog ops Q rest (a.put o.dst (.slice (some ⟨g, 0, none⟩) n n)) w') : wpList Tryz.prog ops Q (o :: rest) a w := by
  subst hz
  exact wpList_make_bytes hg l hop n hl hn O h
end Go.Proofs.YtnlppcjfpmnahaaGreatDoor
