/- name.Labels: slices.Collect of split. -/
import Derived.Test.YtcndlomnnkmopaaNameI
import Derived.Test.YtcndlomnnkmopaaOwnIn
namespace Go.Proofs.Ytcndlomnnkmopaa
set_option linter.all false
open Go.RowKit Go.Shelf
attribute [local go_sem] Oper.semAt_some

set_option maxHeartbeats 1000000 in
theorem appendSeq_any {w0 w : World} {L : List Piece} (l : List UInt8) (hl : l.length ≤ 100000000) (B : Nat) (O : Own w0 w (boxS B l :: L)) :
    Calls Try.prog 50 #[.slice none 0 0, .func (.func 43) #[] #[.pointer (some ⟨B, 0, none⟩)]] w fun e w' => ∃ v, e = .returned v ∧ Own w0 w' (strs v (cut46 l) :: L) := by
  refine (callsIn_wide (n := 3)).1 ?_
  refine callsIn_of_wp_marks Try.func50 rfl trivial ?_
  simp only [Try.ntmps50, List.size_toArray, List.length_cons, List.length_nil, Nat.reduceAdd, Nat.reduceSub, Array.replicate_succ, Array.replicate_zero, List.push_toArray, List.append_toArray, List.nil_append, List.cons_append]
  gi_wp2_with fail
  obtain ⟨sb, hsb⟩ : ∃ b, b = w.heap.size := ⟨_, rfl⟩
  have O1 : Own w0 (w.alloc (.cells #[.slice none 0 0] 36)) (box sb #[.slice none 0 0] 36 :: boxS B l :: L) := by rw [hsb]; exact O.newBox _ _
  replace O1 := O1.nilStrs
  rw [← hsb]
  clear hsb O
  have O2 := (O1.pick 2); clear O1
  refine range_own (w0 := w0) rfl (enters_of Try.func43 (by kernel_rfl) rfl) (split_iter l (by omega) B) (fun _ => rfl)
    (fun k L' => ∃ v, L' = strs v ((cut46 l).take k) :: box sb #[v] 36 :: L)
    (fun c L' => False)
    O2 ⟨.slice none 0 0, rfl⟩
    (fun x => { tmps := #[.slice none 0 0, .func (.func 43) #[] #[.pointer (some ⟨B, 0, none⟩)], .pointer (some ⟨sb, 0, none⟩), undef, .slice none 0 0, .string ⟨x.toArray⟩, .func (.func 43) #[] #[.pointer (some ⟨B, 0, none⟩)], .string ⟨x.toArray⟩, undef, undef, undef, undef, undef], defers := [] }) ?assign ?body ?done ?stop
  case assign =>
    intro m lp x W K hK
    dsimp only [encS]
    gi_wp2
    exact hK
  case body =>
    clear O2
    rintro m lp D o1 o2 k hk L' W O ⟨v, rfl⟩
    obtain ⟨ss, hss⟩ : ∃ ss, ss = (cut46 l).take k := ⟨_, rfl⟩
    have hlen : ss.length ≤ 1000000000 := by have := cut46_len l; rw [hss]; simp; omega
    have hsn := List.take_succ_eq_append_getElem hk
    rw [← hss] at O hsn
    have HS := Lib.hid hss; have HN := Lib.hid hsn; have HL := Lib.hid hlen
    clear hss hsn hlen
    obtain ⟨x, hx⟩ : ∃ x, x = (cut46 l)[k] := ⟨_, rfl⟩
    rw [← hx] at HN ⊢
    clear hx
    have O3 := O.pick 3
    obtain ⟨a, cap, rfl⟩ := O3.shape
    have s0 : W.cell? ⟨sb, 0, none⟩ = some (.slice a ss.length cap) := (O.pick 4).cell 0
    gi_wp2_with (gi_at_builtin; refine wpListIn_append_strO rfl _ _ rfl _ _ x O3 rfl rfl HL.out ?_)
    intro v' w3 O4
    obtain ⟨a3, cap3, rfl⟩ := O4.shape
    have sf : ∀ o, w3.frozen? ⟨sb, o, none⟩ = false := fun o => (O4.pick 4).free o
    have s0' : w3.cell? ⟨sb, 0, none⟩ = some (.slice a ss.length cap) := (O4.pick 4).cell 0
    gi_wp2
    rw [List.length_append, List.length_singleton] at O4
    have O5 : Own w0 (w3.setCell ⟨sb, 0, none⟩ (.slice a3 (ss.length + 1) cap3)) (boxS B (sfx l k) :: blk lp o1 :: blk D o2 :: strs (.slice a3 (ss.length + 1) cap3) (ss ++ [x]) :: box sb #[.slice a3 (ss.length + 1) cap3] 36 :: L) :=
      ((((((O4.pick 4).set 0 (.slice a3 (ss.length + 1) cap3)).pick 1).pick 4).pick 4).pick 4)
    exact ⟨_, O5, _, by rw [HN.out]⟩
  case done =>
    clear O2
    rintro D L' W O ⟨v, rfl⟩
    have s0 : W.cell? ⟨sb, 0, none⟩ = some v := (O.pick 2).cell 0
    simp only [Exit.inBlock, Exit.then]
    gi_wp2
    refine ⟨by simp, .inl ⟨_, _, rfl, run_takeDeferred O.at, ?_⟩⟩
    have O3 := (((O.put (.deferred none)).drop).pick 1).drop
    refine ⟨v, by simp [results, Try.results50, go_sem], v, rfl, ?_⟩
    rw [List.take_length] at O3
    exact O3
  case stop =>
    rintro D c L' W O h
    exact h.elim
theorem collect_any {w0 w : World} {L : List Piece} (l : List UInt8) (hl : l.length ≤ 100000000) (B : Nat) (O : Own w0 w (boxS B l :: L)) :
    Calls Try.prog 41 #[.func (.func 43) #[] #[.pointer (some ⟨B, 0, none⟩)]] w fun e w' => ∃ v, e = .returned v ∧ Own w0 w' (strs v (cut46 l) :: L) := by
  go_enter Try.func41, Try.ntmps41
  go_wp2_with fail
  refine (appendSeq_any l hl B O).mono ?_
  rintro e w2 ⟨v, rfl, O2⟩
  obtain ⟨a, cap, rfl⟩ := O2.shape
  go_wp2
  go_ret
  exact ⟨_, rfl, O2⟩
theorem labels_any {w0 w : World} {L : List Piece} (O : Own w0 w L) (l : List UInt8) (hl : l.length ≤ 100000000) :
    Calls Try.prog 26 #[.string ⟨l.toArray⟩] w fun e w' => ∃ v, e = .returned v ∧ Own w0 w' (strs v (labels3 l) :: L) := by
  go_enter Try.func26, Try.ntmps26
  cases hm : may l
  · have HM := Lib.hid hm; clear hm
    have HL : Hid (labels3 l = []) := by unfold Hid labels3; rw [HM.out]; rfl
    go_wp2_with fail
    refine (may_any l w (by omega)).mono ?_
    rw [HM.out]
    rintro e w1 ⟨rfl, ch⟩
    go_wp2
    go_ret
    exact ⟨_, rfl, by rw [HL.out]; exact (O.pure ch).nilStrs⟩
  · have HM := Lib.hid hm; clear hm
    have HL : Hid (labels3 l = cut46 l) := by unfold Hid labels3; rw [HM.out]; rfl
    go_wp2_with fail
    refine (may_any l w (by omega)).mono ?_
    rw [HM.out]
    rintro e w1 ⟨rfl, ch⟩
    go_wp2_with fail
    refine (split_own (O.pure ch) l).mono ?_
    rintro e w2 ⟨B, rfl, O1⟩
    go_wp2_with fail
    refine (collect_any l hl B O1).mono ?_
    rintro e w2 ⟨v, rfl, O2⟩
    obtain ⟨a, cap, rfl⟩ := O2.shape
    go_wp2
    go_ret
    exact ⟨_, rfl, by rw [HL.out]; exact O2⟩
end Go.Proofs.Ytcndlomnnkmopaa
