/- slices of a string, as facts of every world. -/
import Derived.Test.YtehkdbgoeakgbaaDoorStrs
namespace Go.Proofs.YtehkdbgoeakgbaaDoor
set_option linter.all false
open Go.RowKit

theorem run_sub (l : List UInt8) (i j : Nat) (h1 : i ≤ j) (h2 : j ≤ l.length) (w : World) : (Instr.slice 9 (.string ⟨l.toArray⟩) (some (.int .i64 i)) (some (.int .i64 j)) none).run Tryd.prog w = .ok (.string ⟨((l.drop i).take (j - i)).toArray⟩) w := by
  have hsz : (⟨l.toArray⟩ : ByteArray).size = l.length := by simp [ByteArray.size]
  rw [run_slice_string w 9 ⟨l.toArray⟩ .i64 .i64 i j Tryd.underlying9 (by omega) (by omega) (by rw [hsz]; omega), mk_extract, List.drop_take]
  rfl
theorem run_subFrom (l : List UInt8) (i : Nat) (h2 : i ≤ l.length) (w : World) : (Instr.slice 9 (.string ⟨l.toArray⟩) (some (.int .i64 i)) none none).run Tryd.prog w = .ok (.string ⟨(l.drop i).toArray⟩) w := by
  have hsz : (⟨l.toArray⟩ : ByteArray).size = l.length := by simp [ByteArray.size]
  rw [run_slice_string_from_if w 9 ⟨l.toArray⟩ .i64 i Tryd.underlying9, if_pos ⟨by omega, by rw [hsz]; omega⟩, mk_extract, hsz, List.drop_take]
  show Result.ok (Value.string ⟨((l.drop i).take (l.length - i)).toArray⟩) w = _
  rw [List.take_of_length_le (by simp)]
theorem run_subTo (l : List UInt8) (j : Nat) (h2 : j ≤ l.length) (w : World) : (Instr.slice 9 (.string ⟨l.toArray⟩) none (some (.int .i64 j)) none).run Tryd.prog w = .ok (.string ⟨(l.take j).toArray⟩) w := by
  have hsz : (⟨l.toArray⟩ : ByteArray).size = l.length := by simp [ByteArray.size]
  rw [run_slice_string_to_if w 9 ⟨l.toArray⟩ .i64 j Tryd.underlying9, if_pos ⟨by omega, by rw [hsz]; omega⟩, mk_extract]
  rfl
end Go.Proofs.YtehkdbgoeakgbaaDoor
