/- line.Cut. -/
import Derived.Test.YtnkcanhkdfckmaaDoorLineA
import Derived.BigRegionIn
namespace Go.Proofs.YtnkcanhkdfckmaaDoor
set_option linter.all false
open Go.RowKit Go.Shelf
attribute [local go_sem] Oper.semAt_some

set_option maxHeartbeats 1000000 in
theorem cut_any {w0 w : World} {L : List Piece} (O : Own w0 w L) (m : Int) (hm : w0.cell? ⟨0, 0, none⟩ = some (.int .i64 m)) (l : List UInt8) (hl : l.length ≤ 100000000) :
    Calls Tryd.prog 32 #[.string ⟨l.toArray⟩] w fun e w' => ∃ v, e = .returned (.tuple #[v, .string ⟨(cutL l).2.toArray⟩]) ∧ Own w0 w' (strs v (cutL l).1 :: L) := by
  refine (callsIn_wide (n := 3)).1 ?_
  refine callsIn_of_wp_marks Tryd.func32 rfl trivial ?_
  simp only [Tryd.ntmps32, List.size_toArray, List.length_cons, List.length_nil, Nat.reduceAdd, Nat.reduceSub, Array.replicate_succ, Array.replicate_zero, List.push_toArray, List.append_toArray, List.nil_append, List.cons_append]
  replace O := (O.newBox #[.slice none 0 0] 24).newBox #[.int .i64 0] 3
  gi_wp2_with fail
  refine ⟨trivial, ?_⟩
  refine (callsIn_wide.2 (whole_own O l)).mono ?_
  clear O
  rintro e w1 ⟨B, rfl, O⟩
  rw [show (w.alloc (.cells #[.slice none 0 0] 24)).heap.size = w.heap.size + 1 from by simp] at O
  gi_wp2_with fail
  obtain ⟨lb, hlb⟩ : ∃ b, b = w.heap.size := ⟨_, rfl⟩
  obtain ⟨ub, hub⟩ : ∃ b, b = w.heap.size + 1 := ⟨_, rfl⟩
  rw [← hub, ← hlb] at O ⊢
  clear hlb hub
  replace O := O.nilStrs.pick 1
  try simp only [List.map_cons, List.map_nil, List.getD_cons_zero, List.getD_cons_succ, List.eraseIdx_cons_zero, List.eraseIdx_cons_succ, List.getElem_cons_zero, List.getElem_cons_succ] at O
  refine range_ownW (w0 := w0) rfl (enters_of Tryd.func65 (by kernel_rfl) rfl) (whole_iter l (by omega) B w0 m hm) (fun _ => rfl)
    (fun k L' => ∃ v, L' = strs v ((cutL l).1.take k) :: box ub #[.int .i64 (atL (cutL l).1 k : Nat)] 3 :: box lb #[v] 24 :: L)
    (fun c L' => False)
    O ⟨.slice none 0 0, rfl⟩
    (fun x => { tmps := #[.string ⟨l.toArray⟩, undef, .pointer (some ⟨lb, 0, none⟩), .string ⟨#[]⟩, .pointer (some ⟨ub, 0, none⟩), .string ⟨((cutL l).1[x]?.getD []).toArray⟩, .int .i64 (atL (cutL l).1 (x + 1) : Nat), .string ⟨l.toArray⟩, .func (.func 65) #[] #[.pointer (some ⟨B, 0, none⟩)], .string ⟨((cutL l).1[x]?.getD []).toArray⟩, .int .i64 (atL (cutL l).1 (x + 1) : Nat), undef, undef, undef, undef, undef, undef, undef, undef, undef], defers := [] }) ?assign ?body ?done ?stop
  case assign =>
    intro mm lp x W K hK
    dsimp only [encW]
    gi_wp2
    exact hK
  case body =>
    clear O
    rintro mm lp D o1 o2 k hk L' W O ⟨v, rfl⟩
    have hk' : k < (cutL l).1.length := by simpa [linesN] using hk
    rw [show (linesN l)[k] = k from by simp [linesN]]
    rw [show (cutL l).1[k]?.getD [] = (cutL l).1[k] from by simp [hk']]
    have hle : (cutL l).1.length ≤ 100000000 := by have := cutL_len l; omega
    obtain ⟨ss, hss⟩ : ∃ ss, ss = (cutL l).1.take k := ⟨_, rfl⟩
    have hlen : ss.length ≤ 1000000000 := by rw [hss]; simp; omega
    have hsn := List.take_succ_eq_append_getElem hk'
    rw [← hss] at O hsn
    have HS := Lib.hid hss; have HN := Lib.hid hsn; have HL := Lib.hid hlen
    clear hss hsn hlen
    obtain ⟨x, hx⟩ : ∃ x, x = (cutL l).1[k] := ⟨_, rfl⟩
    obtain ⟨at1, hat1⟩ : ∃ n, n = atL (cutL l).1 (k + 1) := ⟨_, rfl⟩
    obtain ⟨at0, hat0⟩ : ∃ n, n = atL (cutL l).1 k := ⟨_, rfl⟩
    rw [← hx] at HN ⊢
    rw [← hat1]
    rw [← hat0] at O
    have HA := Lib.hid hat1
    clear hx hat1 hat0 hk
    have O3 := O.pick 3
    obtain ⟨a, cap, rfl⟩ := O3.shape
    have s0 : W.cell? ⟨lb, 0, none⟩ = some (.slice a ss.length cap) := (O.pick 5).cell 0
    gi_wp2_with (gi_at_builtin; refine wpListIn_append_strO rfl _ _ rfl _ _ x O3 rfl rfl HL.out ?_)
    intro v' w3 O4
    obtain ⟨a3, cap3, rfl⟩ := O4.shape
    have sf : ∀ o, w3.frozen? ⟨lb, o, none⟩ = false := fun o => (O4.pick 5).free o
    have s0' : w3.cell? ⟨lb, 0, none⟩ = some (.slice a ss.length cap) := (O4.pick 5).cell 0
    rw [List.length_append, List.length_singleton] at O4
    have O5 := (O4.pick 5).set 0 (.slice a3 (ss.length + 1) cap3)
    have uf : ∀ o, (w3.setCell ⟨lb, 0, none⟩ (.slice a3 (ss.length + 1) cap3)).frozen? ⟨ub, o, none⟩ = false := fun o => (O5.pick 5).free o
    have u0' : (w3.setCell ⟨lb, 0, none⟩ (.slice a3 (ss.length + 1) cap3)).cell? ⟨ub, 0, none⟩ = some (.int .i64 at0) := (O5.pick 5).cell 0
    gi_wp2
    have O6 := ((O5.pick 5).set 0 (.int .i64 at1)).selK 6 [3, 4, 5, 2, 0, 1]
    try simp only [List.map_cons, List.map_nil, List.getD_cons_zero, List.getD_cons_succ, List.eraseIdx_cons_zero, List.eraseIdx_cons_succ, List.getElem_cons_zero, List.getElem_cons_succ, List.take_succ_cons, List.take_zero, List.drop_succ_cons, List.drop_zero, List.cons_append, List.nil_append, List.append_eq] at O6
    exact ⟨_, O6, .slice a3 (ss.length + 1) cap3, by rw [HN.out, ← HA.out]; rfl⟩
  case done =>
    clear O
    rintro D L' W O ⟨v, rfl⟩
    rw [show (linesN l).length = (cutL l).1.length from by simp [linesN], List.take_length] at O
    obtain ⟨a, cap, rfl⟩ := (O.pick 1).shape
    obtain ⟨-, he, hle⟩ := cutL_join l
    obtain ⟨at0, hat0⟩ : ∃ n, n = atL (cutL l).1 (cutL l).1.length := ⟨_, rfl⟩
    obtain ⟨rest, hrest⟩ : ∃ n, n = (cutL l).2 := ⟨_, rfl⟩
    rw [← hat0] at O he hle
    rw [← hrest] at he
    have HE := Lib.hid he; have HR := Lib.hid hrest
    clear hat0 he hrest
    have s0 : W.cell? ⟨lb, 0, none⟩ = some (.slice a (cutL l).1.length cap) := (O.pick 3).cell 0
    have sf : ∀ o, W.frozen? ⟨lb, o, none⟩ = false := fun o => (O.pick 3).free o
    have u0 : W.cell? ⟨ub, 0, none⟩ = some (.int .i64 at0) := (O.pick 2).cell 0
    simp only [Exit.inBlock, Exit.then]
    gi_wp2
    have O7 := (O.pick 3).set 0 (.slice a (cutL l).1.length cap)
    have u1 : (W.setCell ⟨lb, 0, none⟩ (.slice a (cutL l).1.length cap)).cell? ⟨ub, 0, none⟩ = some (.int .i64 at0) := (O7.pick 3).cell 0
    gi_region
    gi_wp2
    have O8 := O7.drew
    refine ⟨by simp, .inl ⟨_, _, rfl, run_takeDeferred (O8.pick 1).at, ?_⟩⟩
    have O9 := (O8.pick 1).put (.deferred none)
    have rc := (O9.pick 1).cell 0
    have O10 := (O9.pick 2).selK 4 [0]
    try simp only [List.map_cons, List.map_nil, List.getD_cons_zero, List.getD_cons_succ, List.eraseIdx_cons_zero, List.eraseIdx_cons_succ, List.getElem_cons_zero, List.getElem_cons_succ, List.take_succ_cons, List.take_zero, List.drop_succ_cons, List.drop_zero, List.cons_append, List.nil_append, List.append_eq] at O10
    refine ⟨.tuple #[.slice a (cutL l).1.length cap, .string ⟨(l.drop at0).toArray⟩], by simp [results, Tryd.results32, go_sem, rc], _, ?_, O10⟩
    rw [HE.out, HR.out]
  case stop =>
    rintro D c L' W O h
    exact h.elim
end Go.Proofs.YtnkcanhkdfckmaaDoor
