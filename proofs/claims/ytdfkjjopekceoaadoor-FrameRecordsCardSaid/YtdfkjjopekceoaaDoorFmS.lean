/- frame: parts of an own row; append in regions that draw. -/
import Derived.Test.YtdfkjjopekceoaaDoorFmJ
import Derived.Test.YtdfkjjopekceoaaDoorFmR
import Derived.Test.YtdfkjjopekceoaaDoorStep
namespace Go.Proofs.YtdfkjjopekceoaaDoor
set_option linter.all false
open Go.RowKit

theorem Own.emptyS {w0 w : World} {L : List Piece} (h : Own w0 w L) : Own w0 (w.alloc (.cells #[] 9)) (strs (.slice (some ⟨w.heap.size, 0, none⟩) 0 0) [] :: L) :=
  h.new ((Chg.refl [] w).alloc _) (strs _ []) (F := [w.heap.size]) ⟨World.ownsRow_made w #[] 0 h.size (by unfold maxLen; omega) (by simp), rfl⟩ (by simp)
theorem Own.kindS {w0 w : World} {L : List Piece} {v : Value} {ss : List (List UInt8)} (h : Own w0 w (strs v ss :: L)) : Kind v := by
  rcases row_shape' h.row with e | ⟨g, cap, e⟩
  · exact .inl e
  · exact .inr ⟨_, _, _, e⟩
theorem run_append_someO {w0 w : World} {L : List Piece} {v : Value} {ss : List (List UInt8)} (O : Own w0 w (strs v ss :: L)) {ad : Addr} {m c : Nat} {ms : List (List UInt8)} {G : List Nat} (hm : StrsR w (.slice (some ad) m c) ms G) (hlen : ss.length + ms.length ≤ 1000000000) (ty : TypeId) :
    ∃ v' w', (Builtin.append_ #[22, 22] ty #[v, .slice (some ad) m c]).run Tryd.prog w = .ok v' w' ∧ Own w0 w' (strs v' (ss ++ ms) :: L) := by
  obtain ⟨U, ⟨row, rfl⟩, q⟩ := O.open
  obtain ⟨i0, hi, hz0, hz1, hz2⟩ := info_parts info_str
  obtain ⟨a', cap', he, hr⟩ := hm
  simp only [Value.slice.injEq] at he
  obtain ⟨rfl, rfl, rfl⟩ := he
  obtain ⟨v', w', hrun, r1, r2, _, r3⟩ := run_append_new (P := Tryd.prog) w w0.heap.size 22 ty 9 i0 (.string .empty) 1 16 Tryd.underlying22 hi hz0 hz1 hz2 rfl (by decide) v ss.length _ row ad ms.length c (ms.map str) (by simp)
    (by intro j u hu
        have hj : j < ms.length := by
          rcases Nat.lt_or_ge j ms.length with h' | h'
          · exact h'
          · rw [List.getElem?_eq_none (by simpa using h')] at hu; cases hu
        obtain ⟨g, off, hg, _, hc⟩ := hr (by omega)
        simp only [Option.some.injEq] at hg
        subst hg
        rw [show (⟨g, off, none⟩ : Addr).add j = ⟨g, off + j, none⟩ from by unfold Addr.add; split <;> simp_all]
        rw [hc j hj]
        simp [hj] at hu
        rw [← hu]; rfl) (by simp [str, Value.oneCell']) (by unfold maxLen; omega) (by omega) O.size
  refine ⟨v', w', hrun, q w' (strs v' (ss ++ ms)) _ ⟨by simpa using r1, rfl⟩ ((Chg.refl _ w).grown r2 (fun k hk _ => by simp [hk])) (fun i hi => ?_)⟩
  rcases r3 i (by simpa using hi) with h4 | h4
  · exact .inl (by simp [h4])
  · exact .inr h4
theorem StrsR.takeS {w : World} {g off n cap : Nat} {ss : List (List UInt8)} {G : List Nat} (h : StrsR w (.slice (some ⟨g, off, none⟩) n cap) ss G) (k : Nat) (hk : k ≤ n) (cap' : Nat) : StrsR w (.slice (some ⟨g, off, none⟩) k cap') (ss.take k) G := by
  obtain ⟨a, c, he, hr⟩ := h
  simp only [Value.slice.injEq] at he
  obtain ⟨rfl, rfl, rfl⟩ := he
  have hl : (ss.take k).length = k := by simp; omega
  refine ⟨_, _, by rw [hl], fun hp => ?_⟩
  obtain ⟨g', off', e, hg, hc⟩ := hr (by omega)
  refine ⟨g', off', e, hg, fun i hi => ?_⟩
  rw [hc i (by omega)]
  simp
theorem StrsR.dropS {w : World} {g off n cap : Nat} {ss : List (List UInt8)} {G : List Nat} (h : StrsR w (.slice (some ⟨g, off, none⟩) n cap) ss G) (k : Nat) (hk : k ≤ n) (cap' : Nat) : StrsR w (.slice (some ⟨g, off + k, none⟩) (n - k) cap') (ss.drop k) G := by
  obtain ⟨a, c, he, hr⟩ := h
  simp only [Value.slice.injEq] at he
  obtain ⟨rfl, rfl, rfl⟩ := he
  have hl : (ss.drop k).length = ss.length - k := by simp
  refine ⟨_, _, by rw [hl], fun hp => ?_⟩
  obtain ⟨g', off', e, hg, hc⟩ := hr (by omega)
  simp only [Option.some.injEq, Addr.mk.injEq, and_true] at e
  obtain ⟨rfl, rfl⟩ := e
  refine ⟨g, off + k, rfl, hg, fun i hi => ?_⟩
  rw [Nat.add_assoc, hc (k + i) (by omega)]
  simp
theorem Own.capS {w0 w : World} {L : List Piece} {g n cap : Nat} {ss : List (List UInt8)} (h : Own w0 w (strs (.slice (some ⟨g, 0, none⟩) n cap) ss :: L)) : n ≤ cap := by
  rcases h.row.2 with ⟨hv, _⟩ | ⟨g', cap', cur, hv, _, _, hnc, _⟩
  · cases hv
  · simp only [Value.slice.injEq] at hv
    obtain ⟨-, rfl, rfl⟩ := hv
    exact hnc
theorem run_rowTo (g off n cap k : Nat) (h : k ≤ cap) (w : World) : (Instr.slice 22 (.slice (some ⟨g, off, none⟩) n cap) none (some (.int .i64 k)) none).run Tryd.prog w = .ok (.slice (some ⟨g, off, none⟩) k cap) w := by
  rw [run_slice_h w 22 (some ⟨g, off, none⟩) n cap (by rw [Tryd.underlying22]; rfl) .i64 k (by omega) (by omega)]
  have hs := Tryd.sizeOf9 w
  rw [show Tryd.prog.elem 22 = 9 from by kernel_rfl, hs]
  simp [Result.andThen, sliced, Addr.add]
theorem run_rowFrom (g off n cap k : Nat) (h : k ≤ n) (w : World) : (Instr.slice 22 (.slice (some ⟨g, off, none⟩) n cap) (some (.int .i64 k)) none none).run Tryd.prog w = .ok (.slice (some ⟨g, if cap = k then off else off + k, none⟩) (n - k) (cap - k)) w := by
  rw [run_slice_l w 22 (some ⟨g, off, none⟩) n cap (by rw [Tryd.underlying22]; rfl) .i64 k (by omega) (by omega)]
  have hs := Tryd.sizeOf9 w
  rw [show Tryd.prog.elem 22 = 9 from by kernel_rfl, hs]
  by_cases hc : cap = k
  · simp [Result.andThen, sliced, hc]
  · simp [Result.andThen, sliced, hc, Addr.add]
theorem StrsR.fromS {w : World} {g off n cap : Nat} {ss : List (List UInt8)} {G : List Nat} (h : StrsR w (.slice (some ⟨g, off, none⟩) n cap) ss G) (hc : n ≤ cap) (k : Nat) (hk : k ≤ n) : ∃ o, (∀ w' : World, (Instr.slice 22 (.slice (some ⟨g, off, none⟩) n cap) (some (.int .i64 k)) none none).run Tryd.prog w' = .ok (.slice (some ⟨g, o, none⟩) (n - k) (cap - k)) w') ∧ StrsR w (.slice (some ⟨g, o, none⟩) (n - k) (cap - k)) (ss.drop k) G := by
  refine ⟨_, fun w' => run_rowFrom g off n cap k hk w', ?_⟩
  by_cases e : cap = k
  · obtain ⟨a, c, he, hr⟩ := h
    simp only [Value.slice.injEq] at he
    obtain ⟨rfl, rfl, rfl⟩ := he
    have hl : ss.drop k = [] := List.drop_of_length_le (by omega)
    rw [hl]
    exact ⟨_, _, by rw [show ss.length - k = 0 by omega]; rfl, fun hp => by simp at hp⟩
  · rw [if_neg e]
    exact h.dropS k hk _
end Go.Proofs.YtdfkjjopekceoaaDoor
