/- stuff: Dots, Whole. -/
import Derived.Test.YtknellgmdmpabaaStuffA
import Derived.BigRegionIn
namespace Go.Proofs.Ytknellgmdmpabaa
set_option linter.all false
open Go.RowKit Go.Shelf
attribute [local go_sem] Oper.semAt_some

/-- begins a line by a dot? -/
def hp (l : List UInt8) : Bool := Lib.hasPrefix l [46]
theorem hasPrefix_any (l : List UInt8) (w : World) : Calls Try.prog 18 #[.string ⟨l.toArray⟩, .string ⟨#[46]⟩] w fun e w' => e = .returned (.bool (hp l)) ∧ w = w' :=
  (Try.strings_HasPrefix ⟨l.toArray⟩ ⟨#[46]⟩ w).mono fun e w' h => ⟨h.1, h.2.symm⟩
def dotsN (xs : List (List UInt8 × Bool)) : Nat := xs.countP fun x => hp x.1
theorem dotsN_snoc {xs : List (List UInt8 × Bool)} {k : Nat} (h : k < xs.length) : dotsN (xs.take (k + 1)) = dotsN (xs.take k) + if hp xs[k].1 = true then 1 else 0 := by
  unfold dotsN
  rw [List.take_succ_eq_append_getElem h, List.countP_append]
  simp [List.countP_cons]
theorem dotsN_le (xs : List (List UInt8 × Bool)) : dotsN xs ≤ xs.length := List.countP_le_length
set_option maxHeartbeats 1000000 in
theorem dots_any {w0 w : World} {L : List Piece} (O : Own w0 w L) (m : Int) (hm : w0.cell? ⟨0, 0, none⟩ = some (.int .i64 m)) (l : List UInt8) (hl : l.length ≤ 100000000) :
    Calls Try.prog 11 #[.string ⟨l.toArray⟩] w fun e w' => e = .returned (.int .i64 (dotsN (linesB l) : Nat)) ∧ Own w0 w' L := by
  refine (callsIn_wide (n := 3)).1 ?_
  refine callsIn_of_wp_marks Try.func11 rfl trivial ?_
  simp only [Try.ntmps11, List.size_toArray, List.length_cons, List.length_nil, Nat.reduceAdd, Nat.reduceSub, Array.replicate_succ, Array.replicate_zero, List.push_toArray, List.append_toArray, List.nil_append, List.cons_append]
  replace O := O.newBox #[.int .i64 0] 3
  gi_wp2_with fail
  refine ⟨trivial, ?_⟩
  refine (callsIn_wide.2 (lines_own O l)).mono ?_
  clear O
  rintro e w1 ⟨B, rfl, O⟩
  obtain ⟨nb, hnb⟩ : ∃ b, b = w.heap.size := ⟨_, rfl⟩
  rw [← hnb] at O
  have hxl : (linesB l).length ≤ 100000001 := by have := linesB_len l; have := cutL_len l; split at * <;> omega
  gi_wp2_with fail
  rw [← hnb]
  clear hnb
  refine range_ownP (w0 := w0) rfl (enters_of Try.func24 (by kernel_rfl) rfl) (lines_iter l hl B w0 m hm) (fun _ => rfl)
    (fun k L' => L' = box nb #[.int .i64 (dotsN ((linesB l).take k) : Nat)] 3 :: L)
    (fun c L' => False)
    O rfl
    (fun x => { tmps := #[.string ⟨l.toArray⟩, undef, .int .i64 0, .pointer (some ⟨nb, 0, none⟩), .string ⟨x.1.toArray⟩, .string ⟨l.toArray⟩, .func (.func 24) #[] #[.pointer (some ⟨B, 0, none⟩)], .string ⟨x.1.toArray⟩, .bool x.2, undef, undef, undef, undef, undef], defers := [] }) ?assign ?body ?done ?stop
  case assign =>
    intro mm lp x W K hK
    dsimp only [encB]
    gi_wp2
    exact hK
  case body =>
    clear O
    rintro mm lp D o1 o2 c k hk L' W O rfl
    have hs := dotsN_snoc hk
    have hle : dotsN ((linesB l).take k) ≤ 100000001 := by have := dotsN_le ((linesB l).take k); simp at this; omega
    obtain ⟨x, hx⟩ : ∃ x, x = (linesB l)[k].1 := ⟨_, rfl⟩
    obtain ⟨nn, hn⟩ : ∃ n, n = dotsN ((linesB l).take k) := ⟨_, rfl⟩
    rw [← hx, ← hn] at hs
    rw [← hn] at O hle
    rw [← hx]
    have HS := Lib.hid hs; clear hs hx hn
    have n0 : W.cell? ⟨nb, 0, none⟩ = some (.int .i64 nn) := (O.pick 3).cell 0
    have nf : ∀ o, W.frozen? ⟨nb, o, none⟩ = false := fun o => (O.pick 3).free o
    gi_wp2_with fail
    refine ⟨trivial, (fun h => by cases h), ?_⟩
    refine (CallsIn.inRound lp (callsIn_wide.2 (hasPrefix_any x _))).mono ?_
    rintro e w2 ⟨rfl, rfl⟩
    cases hh : hp x
    · rw [hh] at HS
      clear hh
      gi_wp2
      exact ⟨_, O, by dsimp only; rw [HS.out]; simp⟩
    · rw [hh] at HS
      clear hh
      have w1 : IntKind.i64.wrap ((nn : Int) + 1) = (nn : Int) + 1 := IntWalk.i64_in _ (by omega)
      gi_wp2
      have O2 := ((O.pick 3).set 0 (.int .i64 ((nn : Int) + 1))).selK 4 [1, 2, 3, 0]
      try simp only [List.map_cons, List.map_nil, List.getD_cons_zero, List.getD_cons_succ, List.eraseIdx_cons_zero, List.eraseIdx_cons_succ, List.getElem_cons_zero, List.getElem_cons_succ, List.take_succ_cons, List.take_zero, List.drop_succ_cons, List.drop_zero, List.cons_append, List.nil_append, List.append_eq] at O2
      exact ⟨_, O2, by dsimp only; rw [HS.out]; simp⟩
  case done =>
    clear O
    rintro D L' W O rfl
    rw [List.take_length] at O
    have n0 : W.cell? ⟨nb, 0, none⟩ = some (.int .i64 (dotsN (linesB l) : Nat)) := (O.pick 1).cell 0
    obtain ⟨nn, hn⟩ : ∃ n, n = dotsN (linesB l) := ⟨_, rfl⟩
    rw [← hn] at n0
    have HN := Lib.hid hn; clear hn
    simp only [Exit.inBlock, Exit.then]
    gi_wp2
    refine ⟨by simp, .inl ⟨_, _, rfl, run_takeDeferred O.at, ?_⟩⟩
    have O3 := ((O.put (.deferred none)).drop).drop
    refine ⟨.int .i64 nn, by simp [results, Try.results11, go_sem], by rw [HN.out], O3⟩
  case stop =>
    rintro D c L' W O h
    exact h.elim

def wholeB (xs : List (List UInt8 × Bool)) : Bool := xs.any fun x => x.2 && x.1 == [46]
set_option maxHeartbeats 1000000 in
theorem whole8_any {w0 w : World} {L : List Piece} (O : Own w0 w L) (m : Int) (hm : w0.cell? ⟨0, 0, none⟩ = some (.int .i64 m)) (l : List UInt8) (hl : l.length ≤ 100000000) :
    Calls Try.prog 12 #[.string ⟨l.toArray⟩] w fun e w' => e = .returned (.bool (wholeB (linesB l))) ∧ Own w0 w' L := by
  refine (callsIn_wide (n := 3)).1 ?_
  refine callsIn_of_wp_marks Try.func12 rfl trivial ?_
  simp only [Try.ntmps12, List.size_toArray, List.length_cons, List.length_nil, Nat.reduceAdd, Nat.reduceSub, Array.replicate_succ, Array.replicate_zero, List.push_toArray, List.append_toArray, List.nil_append, List.cons_append]
  replace O := O.newBox #[.bool false] 4
  gi_wp2_with fail
  refine ⟨trivial, ?_⟩
  refine (callsIn_wide.2 (lines_own O l)).mono ?_
  clear O
  rintro e w1 ⟨B, rfl, O⟩
  obtain ⟨nb, hnb⟩ : ∃ b, b = w.heap.size := ⟨_, rfl⟩
  rw [← hnb] at O
  gi_wp2_with fail
  rw [← hnb]
  clear hnb
  refine range_ownP (w0 := w0) rfl (enters_of Try.func24 (by kernel_rfl) rfl) (lines_iter l hl B w0 m hm) (fun _ => rfl)
    (fun k L' => L' = box nb #[.bool false] 4 :: L ∧ wholeB ((linesB l).take k) = false)
    (fun c L' => c = .ret ∧ L' = box nb #[.bool true] 4 :: L ∧ wholeB (linesB l) = true)
    O ⟨rfl, rfl⟩
    (fun x => { tmps := #[.string ⟨l.toArray⟩, undef, .pointer (some ⟨nb, 0, none⟩), .string ⟨x.1.toArray⟩, .bool x.2, .string ⟨l.toArray⟩, .func (.func 24) #[] #[.pointer (some ⟨B, 0, none⟩)], .string ⟨x.1.toArray⟩, .bool x.2, undef, undef, undef, undef, undef], defers := [] }) ?assign ?body ?done ?stop
  case assign =>
    intro mm lp x W K hK
    dsimp only [encB]
    gi_wp2
    exact hK
  case body =>
    clear O
    rintro mm lp D o1 o2 c k hk L' W O ⟨rfl, hno⟩
    have hstep : wholeB ((linesB l).take (k + 1)) = (wholeB ((linesB l).take k) || ((linesB l)[k].2 && (linesB l)[k].1 == [46])) := by
      unfold wholeB
      rw [List.take_succ_eq_append_getElem hk, List.any_append]
      simp
    rw [hno, Bool.false_or] at hstep
    have hyes : ((linesB l)[k].2 && (linesB l)[k].1 == [46]) = true → wholeB (linesB l) = true := fun h => List.any_eq_true.2 ⟨_, List.getElem_mem hk, h⟩
    obtain ⟨x, hx⟩ : ∃ x, x = (linesB l)[k].1 := ⟨_, rfl⟩
    obtain ⟨e, he⟩ : ∃ e, e = (linesB l)[k].2 := ⟨_, rfl⟩
    rw [← hx, ← he] at hstep hyes ⊢
    have HS := Lib.hid hstep; have HYE := Lib.hid hyes
    clear hstep hyes hx he hno
    have n0 : W.cell? ⟨nb, 0, none⟩ = some (.bool false) := (O.pick 3).cell 0
    have nf : ∀ o, W.frozen? ⟨nb, o, none⟩ = false := fun o => (O.pick 3).free o
    cases e
    · gi_wp2
      exact ⟨_, O, rfl, by rw [HS.out]; simp⟩
    · cases hq : (x == [46])
      · gi_wp2
        exact ⟨_, O, rfl, by rw [HS.out, hq]; rfl⟩
      · gi_wp2
        have O2 := ((O.pick 3).set 0 (.bool true)).selK 4 [1, 2, 3, 0]
        try simp only [List.map_cons, List.map_nil, List.getD_cons_zero, List.getD_cons_succ, List.eraseIdx_cons_zero, List.eraseIdx_cons_succ, List.getElem_cons_zero, List.getElem_cons_succ, List.take_succ_cons, List.take_zero, List.drop_succ_cons, List.drop_zero, List.cons_append, List.nil_append, List.append_eq] at O2
        exact ⟨_, O2, rfl, rfl, HYE.out (by rw [hq]; rfl)⟩
  case done =>
    clear O
    rintro D L' W O ⟨rfl, hno⟩
    rw [List.take_length] at hno
    have HN := Lib.hid hno; clear hno
    have n0 : W.cell? ⟨nb, 0, none⟩ = some (.bool false) := (O.pick 1).cell 0
    have nf : ∀ o, W.frozen? ⟨nb, o, none⟩ = false := fun o => (O.pick 1).free o
    simp only [Exit.inBlock, Exit.then]
    gi_wp2
    have O2 := (O.pick 1).set 0 (.bool false)
    refine ⟨by simp, .inl ⟨_, _, rfl, run_takeDeferred (O2.pick 1).at, ?_⟩⟩
    have O3 := (O2.pick 1).put (.deferred none)
    have rc := (O3.pick 1).cell 0
    refine ⟨.bool false, by simp [results, Try.results12, go_sem, rc], by rw [HN.out], O3.drop.drop⟩
  case stop =>
    clear O
    rintro D c L' W O ⟨rfl, rfl, hyes⟩
    gi_wp2
    refine ⟨by simp, .inl ⟨_, _, rfl, run_takeDeferred O.at, ?_⟩⟩
    have O3 := O.put (.deferred none)
    have rc := (O3.pick 1).cell 0
    refine ⟨.bool true, by simp [results, Try.results12, go_sem, rc], by rw [hyes], O3.drop.drop⟩
end Go.Proofs.Ytknellgmdmpabaa
