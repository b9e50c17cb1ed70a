/- AddrLess: recipients in a row of our own; the last line, step by step. -/
import Derived.Test.YtlmifdkhdcbniaaDoorAdApp
import Derived.Test.YtlmifdkhdcbniaaDoorAdLessP
namespace Go.Proofs.YtlmifdkhdcbniaaDoor
set_option linter.all false
open Go.RowKit

theorem rowv_rc {w0 w : World} {L : List Piece} {a : Option Addr} {n cap : Nat} {rc : List (List UInt8 × Bool)} (O : Own w0 w (rowv 43 2 (.slice a n cap) n (flat2 rc) :: L)) (hn : n = rc.length) : ∃ G, RcR w a rc G := by
  by_cases h0 : 0 < rc.length
  · obtain ⟨-, g, rfl, -, -⟩ := O.rowvAt 0 (by rw [flat2_len]; omega)
    refine ⟨[g], fun _ => ⟨g, 0, rfl, by simp, fun i hi => ?_⟩⟩
    obtain ⟨-, g1, e1, h1, -⟩ := O.rowvAt (i * 2) (by rw [flat2_len]; omega)
    obtain ⟨-, g2, e2, h2, -⟩ := O.rowvAt (i * 2 + 1) (by rw [flat2_len]; omega)
    simp only [Option.some.injEq, Addr.mk.injEq, and_true] at e1 e2
    subst e1 e2
    obtain ⟨f1, f2⟩ := flat2_get rc i hi
    rw [List.getElem_of_getElem? f1 |>.2] at h1
    rw [List.getElem_of_getElem? f2 |>.2] at h2
    rw [Nat.zero_add]
    exact ⟨h1, h2⟩
  · exact ⟨[], fun h => absurd h h0⟩
theorem rowv_cap {w0 w : World} {L : List Piece} {e : TypeId} {size : Nat} {a : Option Addr} {n k cap : Nat} {xs : List Value} (O : Own w0 w (rowv e size (.slice a k cap) n xs :: L)) : n ≤ cap ∧ k = n := by
  rcases O.rowvRow.2 with ⟨hv, hn⟩ | ⟨g, cap', cur, hv, h⟩
  · simp only [Value.slice.injEq] at hv
    omega
  · simp only [Value.slice.injEq] at hv
    obtain ⟨-, rfl, rfl⟩ := hv
    exact ⟨h.2.2.1, rfl⟩
theorem last_start (s : List UInt8) : ∀ j (h : j < s.length), s.length - 2 ≤ j → j < s.length - 2 → s[j] ≠ 10 := by
  intro j _ h1 h2; omega
theorem last_zero {s : List UInt8} {a : Nat} (ha : a ≤ s.length - 2) (hno : ∀ j (h : j < s.length), a ≤ j → j < s.length - 2 → s[j] ≠ 10) (h0 : a = 0) : LastLine s a := ⟨ha, .inl h0, hno⟩
theorem last_stop {s : List UInt8} {a : Nat} (ha : a ≤ s.length - 2) (hno : ∀ j (h : j < s.length), a ≤ j → j < s.length - 2 → s[j] ≠ 10) (h : a - 1 < s.length) (h1 : s[a - 1] = 10) : LastLine s a := ⟨ha, .inr ⟨h, h1⟩, hno⟩
theorem last_step {s : List UInt8} {a : Nat} (ha : 0 < a) (hno : ∀ j (h : j < s.length), a ≤ j → j < s.length - 2 → s[j] ≠ 10) (h : a - 1 < s.length) (h1 : s[a - 1] ≠ 10) : ∀ j (h : j < s.length), a - 1 ≤ j → j < s.length - 2 → s[j] ≠ 10 := by
  intro j hj h2 h3
  by_cases e : a ≤ j
  · exact hno j hj e h3
  · obtain rfl : j = a - 1 := by omega
    exact h1
end Go.Proofs.YtlmifdkhdcbniaaDoor
