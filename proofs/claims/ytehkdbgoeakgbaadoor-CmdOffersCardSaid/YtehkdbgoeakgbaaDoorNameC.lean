/- name.May. -/
import Derived.Test.YtehkdbgoeakgbaaDoorNameB
namespace Go.Proofs.YtehkdbgoeakgbaaDoor
set_option linter.all false
open Go.RowKit Go.Shelf
attribute [local go_sem] Oper.semAt_some

theorem may_long {l : List UInt8} (h : 253 < l.length) : may l = false := by
  unfold may; rw [decide_eq_false (by omega)]; simp
theorem may_of {l : List UInt8} (h : l.length ≤ 253) (ha : ∀ j (h : j < (cut46 l).length), labelOk (cut46 l)[j] = true) :
    may l = !((cut46 l)[(cut46 l).length - 1]'(by have := List.length_pos_iff.2 (cut46_ne l); omega)).all dig := by
  unfold may
  have : (cut46 l).all labelOk = true := by
    rw [List.all_eq_true]
    intro x hx
    obtain ⟨j, hj, rfl⟩ := List.mem_iff_getElem.1 hx
    exact ha j hj
  rw [decide_eq_true h, this, List.getLast_eq_getElem]; rfl
set_option maxHeartbeats 1000000 in
theorem may_any (l : List UInt8) (w : World) (hl : l.length ≤ 1000000000) :
    Calls Tryd.prog 42 #[.string ⟨l.toArray⟩] w fun e w' => e = .returned (.bool (may l)) ∧ Chg [] w w' := by
  refine (callsIn_wide (n := 3)).1 ?_
  refine callsIn_of_wp_marks Tryd.func42 rfl trivial ?_
  simp only [Tryd.ntmps42, List.size_toArray, List.length_cons, List.length_nil, Nat.reduceAdd, Nat.reduceSub, Array.replicate_succ, Array.replicate_zero, List.push_toArray, List.append_toArray, List.nil_append, List.cons_append]
  by_cases h1 : 253 < l.length
  · have h1' : (253 : Int) < (l.length : Int) := by omega
    gi_wp2
    exact ⟨.bool false, by simp [results, Tryd.results42, go_sem], ⟨by rw [may_long h1], (Chg.refl _ _).alloc _⟩⟩
  have h1' : ¬ (253 : Int) < (l.length : Int) := by omega
  have O := ((Own.start w).newBox #[.bool false] 4).newBox #[.bool false] 4
  rw [show (w.alloc (.cells #[.bool false] 4)).heap.size = w.heap.size + 1 from by simp] at O
  gi_wp2_with fail
  refine ⟨trivial, ?_⟩
  refine (callsIn_wide.2 (split_own O l)).mono ?_
  clear O
  rintro e w1 ⟨B, rfl, O⟩
  gi_wp2_with fail
  obtain ⟨rb, hrb⟩ : ∃ b, b = w.heap.size := ⟨_, rfl⟩
  obtain ⟨lb, hlb⟩ : ∃ b, b = w.heap.size + 1 := ⟨_, rfl⟩
  rw [← hlb, ← hrb] at O ⊢
  clear hlb hrb
  refine range_own (w0 := w) rfl (enters_of Tryd.func72 (by kernel_rfl) rfl) (split_iter l hl B) (fun _ => rfl)
    (fun k L => ∃ d : Bool, L = [box lb #[.bool d] 4, box rb #[.bool false] 4] ∧ (∀ j (h : j < (cut46 l).length), j < k → labelOk (cut46 l)[j] = true) ∧ (∀ (h : k - 1 < (cut46 l).length), 0 < k → d = (cut46 l)[k - 1].all dig))
    (fun c L => c = .ret ∧ (cut46 l).all labelOk = false ∧ ∃ d : Bool, L = [box lb #[.bool d] 4, box rb #[.bool false] 4])
    O ⟨false, rfl, fun j h h' => by omega, fun h h' => by omega⟩
    (fun x => { tmps := #[.string ⟨l.toArray⟩, undef, .pointer (some ⟨rb, 0, none⟩), .pointer (some ⟨lb, 0, none⟩), .string ⟨x.toArray⟩, undef, undef, .string ⟨l.toArray⟩, .int .i64 ↑l.length, .bool false, .string ⟨l.toArray⟩, .func (.func 72) #[] #[.pointer (some ⟨B, 0, none⟩)], .string ⟨x.toArray⟩, undef, undef, undef, undef, undef, undef, undef, undef, undef, undef], defers := [] }) ?assign ?body ?done ?stop
  case assign =>
    intro m lp x W K hK
    dsimp only [encS]
    gi_wp2
    exact hK
  case body =>
    clear O
    rintro m lp D o1 o2 k hk L W O ⟨d, rfl, hall, hd⟩
    have HALL := Lib.hid hall; clear hall hd
    obtain ⟨e1, e2⟩ := sfx_at l k hk
    have hlen : (cut46 l)[k].length ≤ 1000000000 := by rw [← e1]; have := hd46_le (sfx l k); have := sfx_le l k; omega
    clear e1 e2
    obtain ⟨x, hx⟩ : ∃ x, x = (cut46 l)[k] := ⟨_, rfl⟩
    rw [← hx] at hlen ⊢
    have HX := Lib.hid hx; clear hx
    gi_wp2_with fail
    refine ⟨trivial, (fun h => by cases h), ?_⟩
    refine (CallsIn.inRound lp (callsIn_wide.2 (label_any x _ hlen))).mono ?_
    rintro e w2 ⟨rfl, rfl⟩
    unfold labelV
    have l0 : W.cell? ⟨lb, 0, none⟩ = some (.bool d) := (O.pick 3).cell 0
    have lf : ∀ o, W.frozen? ⟨lb, o, none⟩ = false := fun o => (O.pick 3).free o
    have r0 : W.cell? ⟨rb, 0, none⟩ = some (.bool false) := (O.pick 4).cell 0
    have rf : ∀ o, W.frozen? ⟨rb, o, none⟩ = false := fun o => (O.pick 4).free o
    cases hok : labelOk x
    · gi_wp2
      refine ⟨_, ((O.pick 4).set 0 (.bool false)).sel [1, 2, 3, 4, 0], rfl, ?_, d, rfl⟩
      rw [List.all_eq_false]
      exact ⟨_, List.getElem_mem hk, by rw [← HX.out, hok]; simp⟩
    · gi_wp2
      refine ⟨_, ((O.pick 3).set 0 _).sel [1, 2, 3, 0, 4], _, rfl, fun j h h' => ?_, fun h _ => ?_⟩
      · by_cases e : j = k
        · subst e; rw [← HX.out]; exact hok
        · exact HALL.out j h (by omega)
      · simp [HX.out]
  case done =>
    clear O
    rintro D L W O ⟨d, rfl, hall, hd⟩
    have l0 : W.cell? ⟨lb, 0, none⟩ = some (.bool d) := (O.pick 1).cell 0
    have r0 : W.cell? ⟨rb, 0, none⟩ = some (.bool false) := (O.pick 2).cell 0
    have rf : ∀ o, W.frozen? ⟨rb, o, none⟩ = false := fun o => (O.pick 2).free o
    have hne := List.length_pos_iff.2 (cut46_ne l)
    have hlast := hd (by omega) (by omega)
    have HALL := Lib.hid hall; have HL := Lib.hid hlast
    clear hall hd hlast
    simp only [Exit.inBlock, Exit.then]
    gi_wp2
    have O2 := (O.pick 2).set 0 (.bool !d)
    refine ⟨by simp, .inl ⟨_, _, rfl, run_takeDeferred (O2.pick 1).at, ?_⟩⟩
    have O3 := (O2.pick 1).put (.deferred none)
    have rc := (O3.pick 1).cell 0
    refine ⟨.bool !d, by simp [results, Tryd.results42, go_sem, rc], ⟨?_, O3.chg⟩⟩
    rw [may_of (by omega) (fun j h => HALL.out j h h), HL.out]
  case stop =>
    clear O
    rintro D c L W O ⟨rfl, hno, d, rfl⟩
    gi_wp2
    refine ⟨by simp, .inl ⟨_, _, rfl, run_takeDeferred O.at, ?_⟩⟩
    have O3 := O.put (.deferred none)
    have rc := (O3.pick 2).cell 0
    refine ⟨.bool false, by simp [results, Tryd.results42, go_sem, rc], ⟨?_, O3.chg⟩⟩
    rw [may, hno]; simp
end Go.Proofs.YtehkdbgoeakgbaaDoor
