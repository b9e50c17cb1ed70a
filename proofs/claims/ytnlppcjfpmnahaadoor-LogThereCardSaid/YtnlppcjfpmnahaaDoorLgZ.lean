/- append([]byte(s), make([]byte, n)...) over Own; its first bytes. -/
import Derived.Test.YtnlppcjfpmnahaaDoorPack
import Derived.Deep.AppendSrc
import Derived.Lib.AppendZeros
namespace Go.Proofs.YtnlppcjfpmnahaaDoor
set_option linter.all false
open Go.RowKit

theorem zero_u8 : (Tryd.prog.info? 5).bind (·.zero) = some (.int .u8 0) := by kernel_rfl
theorem zeroCells_u8 (n : Nat) : (Builtin.zeroCells (Value.int .u8 0).cells n).toList = (List.replicate n (0 : UInt8)).map fun x => Value.int .u8 (x.toNat : Int) := by
  refine List.ext_getElem (by simp [Builtin.zeroCells, Value.cells]) (fun i h1 h2 => ?_)
  simp [Builtin.zeroCells, Value.cells, Nat.mod_one]
theorem und_int : Tryd.prog.underlying 3 = some (.int .i64) := Tryd.underlying3
set_option maxRecDepth 100000 in
theorem bytes_zeros {w0 w : World} {L : List Piece} (h : Own w0 w L) (l : List UInt8) (hl : l.length ≤ 1000000) (n : Nat) (h0 : 0 < n) (hn : n ≤ 1000) (ty : TypeId) : ∃ g cap W1, (convert 9 57 (.string ⟨l.toArray⟩)).run Tryd.prog w = .ok (.slice (some ⟨g, 0, none⟩) l.length cap) W1 ∧
    ∃ g2 cap2 W2, (Builtin.append_ #[57, 3] ty #[.slice (some ⟨g, 0, none⟩) l.length cap, .int .i64 (n : Int)]).run Tryd.prog W1 = .ok (.slice (some ⟨g2, 0, none⟩) (l.length + n) cap2) W2 ∧ l.length + n ≤ cap2 ∧ Own w0 W2 (bytes g2 (l ++ List.replicate n 0) :: L) := by
  have hr := run_bytes_of_string (P := Tryd.prog) w 9 57 5 ⟨l.toArray⟩ Tryd.underlying9 Tryd.underlying57 Tryd.underlying5
  have hsz : (⟨l.toArray⟩ : ByteArray).size = l.length := by simp [ByteArray.size]
  rw [hsz] at hr
  obtain ⟨i0, hi, hz0, hz1, hz2⟩ := info_parts info_u8
  have hge := grownCap_ge w l.length 0 5
  refine ⟨_, _, _, hr, ?_⟩
  generalize hc : grownCap w l.length 0 5 = cap at *
  have hw : IntKind.i64.wrap (n : Int) = n := by rw [IntKind.wrap_i64]; omega
  have hneg : ¬ ((n : Int) < 0) := by omega
  have h48i : ¬ (281474976710656 < (n : Int) * (i0.bytes : Int)) := by rw [hz2]; omega
  have hns : ¬ (n * i0.size = 0) := by rw [hz1]; omega
  have hzv : i0.zero = some (.int .u8 0) := hz0
  have hzc : Builtin.zeroCells (Value.int .u8 0).cells n = ((List.replicate n (0 : UInt8)).map fun x => Value.int .u8 (x.toNat : Int)).toArray := by
    apply Array.ext'; rw [zeroCells_u8]
  by_cases hroom : l.length + n ≤ cap
  · have O1 : Own w0 (w.drew.alloc (.cells (bytesRow ⟨l.toArray⟩ cap) 5 ((bytesRow ⟨l.toArray⟩ cap).size, (bytesRow ⟨l.toArray⟩ cap).size + 1))) (bytes w.heap.size (l ++ List.replicate n 0) :: L) := by
      refine h.new (((Chg.refl [] w).drew).alloc _) (bytes w.heap.size (l ++ List.replicate n 0)) (F := [w.heap.size]) ⟨⟨_, _, heap_alloc_new w.drew _, fun j hj => ?_, fun j hj => ?_⟩, h.size, rfl⟩ (by simp)
      · have hb : (bytesRow ⟨l.toArray⟩ cap)[j]? = some (.int .u8 (((l ++ List.replicate n 0)[j]).toNat : Int)) := by
          rw [List.length_append, List.length_replicate] at hj
          rcases Nat.lt_or_ge j l.length with q | q
          · rw [bytesRow_at _ _ j (by simpa using q)]
            simp only [List.getElem_append_left q, List.getElem_toArray]
          · unfold bytesRow
            rw [Array.getElem?_append_right (by simpa using q), List.getElem_append_right q, List.getElem_replicate]
            rw [Array.getElem?_replicate, if_pos (by simp [hsz]; omega)]
            rfl
        exact hb
      · have hs2 : (bytesRow ⟨l.toArray⟩ cap).size = l.length + (cap - l.length) := by unfold bytesRow; simp [hsz]
        simp only [hs2]
        simp at hj
        omega
    have O2 := O1.setBytes (List.replicate n 0) l.length
    rw [setsL_eq _ _ _ (by simp), List.take_left, List.drop_of_length_le (by simp), List.append_nil] at O2
    have hst := run_storeCells_cells (P := Tryd.prog) w.heap.size l.length ((List.replicate n (0 : UInt8)).map fun x => Value.int .u8 (x.toNat : Int)) 0 (w.drew.alloc (.cells (bytesRow ⟨l.toArray⟩ cap) 5 ((bytesRow ⟨l.toArray⟩ cap).size, (bytesRow ⟨l.toArray⟩ cap).size + 1)))
      (fun j hj => by rw [(O1.byteCell (l.length + 0 + j) (by simp at hj ⊢; omega)).1]; rfl) (fun j hj => (O1.byteCell (l.length + 0 + j) (by simp at hj ⊢; omega)).2) (by intro v hv; obtain ⟨x, _, rfl⟩ := List.mem_map.1 hv; rfl)
    refine ⟨_, _, _, ?_, hroom, O2⟩
    simp [Builtin.append_, run_underlying Tryd.underlying57, run_underlying und_int, Go.sizeOf, typeInfo, zeroValue, hi, hzv, asInt, asIntOf, hw, hneg, hns, h48i, hroom, hzc]
    simp at hst
    rw [show (⟨w.heap.size, 0, none⟩ : Addr).add (l.length * i0.size) = ⟨w.heap.size, l.length, none⟩ from by rw [hz1, Nat.mul_one]; unfold Addr.add; split <;> simp_all, hst]
    rfl
  · have O1 := h.new (((Chg.refl [] w).drew).alloc (.cells (bytesRow ⟨l.toArray⟩ cap) 5 ((bytesRow ⟨l.toArray⟩ cap).size, (bytesRow ⟨l.toArray⟩ cap).size + 1))) (bytes w.heap.size l) (F := [w.heap.size]) ⟨⟨_, _, heap_alloc_new w.drew _, fun j hj => by rw [bytesRow_at _ _ j (by simpa using hj)]; simp, fun j hj => by
        have hs2 : (bytesRow ⟨l.toArray⟩ cap).size = l.length + (cap - l.length) := by unfold bytesRow; simp [hsz]
        simp only [hs2]
        omega⟩, h.size, rfl⟩ (by simp)
    generalize (w.drew.alloc (.cells (bytesRow ⟨l.toArray⟩ cap) 5 ((bytesRow ⟨l.toArray⟩ cap).size, (bytesRow ⟨l.toArray⟩ cap).size + 1))) = W at O1 ⊢
    generalize w.heap.size = g at O1 ⊢
    have hold := run_firstCells_some (P := Tryd.prog) W.drew i0.size l.length ⟨g, 0, none⟩ l.length cap (l.map fun x => Value.int .u8 (x.toNat : Int)) (by rw [hz1]; simp) (fun j u hj => by
      have hj' : j < l.length := by
        rcases Nat.lt_or_ge j l.length with h' | h'
        · exact h'
        · rw [List.getElem?_eq_none (by simpa using h')] at hj; cases hj
      rw [show (⟨g, 0, none⟩ : Addr).add j = ⟨g, j, none⟩ from by unfold Addr.add; split <;> simp_all, (O1.drew.byteCell j hj').1]
      simp [hj'] at hj
      simp [hj])
    have hge2 := grownCap_ge W (l.length + n) cap 5
    have h63' : ¬ (9223372036854775807 < ((l.length : Int) + (n : Int))) := by omega
    have hfit := growslice_fits (need := l.length + n) (old := cap) (bytes := 1) (by omega) (by omega)
    have h48' : ¬ (281474976710656 < Builtin.nextslicecap (l.length + n) cap * i0.bytes) := by rw [hz2]; omega
    refine ⟨W.heap.size, grownCap W (l.length + n) cap 5, W.drew.alloc (.cells ((((l ++ List.replicate n (0 : UInt8)).map fun x : UInt8 => Value.int .u8 (x.toNat : Int)).toArray) ++ Builtin.zeroCells (Value.int .u8 0).cells (grownCap W (l.length + n) cap 5 - (l.length + n))) 5), ?_, hge2, ?_⟩
    · simp [Builtin.append_, run_underlying Tryd.underlying57, run_underlying und_int, Go.sizeOf, typeInfo, zeroValue, hi, hzv, asInt, asIntOf, hw, hneg, hns, h48i, hroom, hzc, h63', h48', Question.forced, hold, newRow, grownCap]
      congr 2
      apply Array.ext'
      simp [List.append_assoc]
    · refine O1.drop.new (((Chg.refl [] W).drew).alloc _) (bytes W.heap.size (l ++ List.replicate n 0)) (F := [W.heap.size]) ⟨⟨_, _, heap_alloc_new W.drew _, fun j hj => ?_, fun j hj => by simp⟩, O1.size, rfl⟩ (by simp)
      rw [Array.getElem?_append_left (by simpa using hj)]
      rw [List.getElem?_toArray, List.getElem?_map, List.getElem?_eq_getElem hj]
      rfl
/-- its first 128 bytes, as a text -/
theorem first_bytes {w0 w : World} {L : List Piece} {g : Nat} {l : List UInt8} (h : Own w0 w (bytes g l :: L)) (k : Nat) (hk : k ≤ l.length) (cap : Nat) : (convert 57 9 (.slice (some ⟨g, 0, none⟩) k cap)).run Tryd.prog w = .ok (.string ⟨(l.take k).toArray⟩) w := by
  have := run_convert_bytes_back (P := Tryd.prog) w 57 9 5 ⟨g, 0, none⟩ cap (l.take k) Tryd.underlying57 Tryd.underlying5 Tryd.underlying9 (fun j hj => by
    rw [show (⟨g, 0, none⟩ : Addr).add j = ⟨g, j, none⟩ from by unfold Addr.add; split <;> simp_all]
    rw [List.length_take] at hj
    rw [(h.byteCell j (by omega)).1, List.getElem_take])
  rw [List.length_take, Nat.min_eq_left hk] at this
  exact this
end Go.Proofs.YtnlppcjfpmnahaaDoor
