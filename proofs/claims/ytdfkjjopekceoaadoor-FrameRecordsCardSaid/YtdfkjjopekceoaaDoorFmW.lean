/- frame: the document's Get, Age. -/
import Derived.Test.YtdfkjjopekceoaaDoorFmV
namespace Go.Proofs.YtdfkjjopekceoaaDoor
set_option linter.all false
open Go.RowKit

theorem run_toS (l : List UInt8) (j : Nat) (h2 : j ≤ l.length) (w : World) : (Instr.slice 9 (.string ⟨l.toArray⟩) none (some (.int .i64 j)) none).run Tryd.prog w = .ok (.string ⟨(l.take j).toArray⟩) w := by
  have hsz : (⟨l.toArray⟩ : ByteArray).size = l.length := by simp [ByteArray.size]
  rw [run_slice_string_to_if w 9 ⟨l.toArray⟩ .i64 j Tryd.underlying9, if_pos ⟨by omega, by rw [hsz]; omega⟩, mk_extract]
  rfl
theorem numberQ (l : List UInt8) (h4 : l.length ≤ 4) (w : World) : Calls Tryd.prog 30 #[.string ⟨l.toArray⟩] w fun e w' => e = .returned (.int .i64 (numL l)) ∧ w' = w :=
  (numberR_any l h4 w).mono fun _ _ h => ⟨h.1, h.2.symm⟩
theorem mayQ (age place : Int) (b : Bool) (hb : mayB age place = b) (w : World) : Calls Tryd.prog 26 #[.int .i64 age, .int .i64 place] w fun e w' => e = .returned (.bool b) ∧ w' = w :=
  (mayR_any age place w).mono fun _ _ h => ⟨by rw [← hb]; exact h.1, h.2.symm⟩
set_option maxRecDepth 100000 in
set_option maxHeartbeats 2000000 in
theorem getR_any {w0 w : World} {L : List Piece} (O : Own w0 w L) (x : List UInt8) :
    Calls Tryd.prog 20 #[.string ⟨x.toArray⟩] w fun e w' => e = .returned (getV x) ∧ Own w0 w' L := by
  by_cases hx : x.length = 128
  rotate_left
  · have hx' : ((x.length : Int) != 128) = true := by simp; omega
    have HV := Lib.hid (getV_false (getV_short hx))
    clear hx
    go_enter Tryd.func20, Tryd.ntmps20
    go_wp2_with fail
    go_quiet (fail)
    go_wp2
    go_returns
    rw [HV.out]
    exact ⟨rfl, O.drewN _⟩
  have hx' : (x.length : Int) = 128 := by omega
  have e1 : ∀ w' : World, (Instr.slice 9 (.string ⟨x.toArray⟩) none (some (.int .i64 8)) none).run Tryd.prog w' = .ok (.string ⟨(x.take 8).toArray⟩) w' := fun w' => run_toS x 8 (by omega) w'
  have e2 : ∀ w' : World, (Instr.slice 9 (.string ⟨x.toArray⟩) (some (.int .i64 120)) none none).run Tryd.prog w' = .ok (.string ⟨(x.drop 120).toArray⟩) w' := fun w' => run_subFrom x 120 (by omega) w'
  have e3 : ∀ w' : World, (Instr.slice 9 (.string ⟨x.toArray⟩) none (some (.int .i64 4)) none).run Tryd.prog w' = .ok (.string ⟨(x.take 4).toArray⟩) w' := fun w' => run_toS x 4 (by omega) w'
  have e4 : ∀ w' : World, (Instr.slice 9 (.string ⟨x.toArray⟩) (some (.int .i64 4)) (some (.int .i64 8)) none).run Tryd.prog w' = .ok (.string ⟨((x.drop 4).take 4).toArray⟩) w' := fun w' => run_sub x 4 8 (by omega) (by omega) w'
  have e5 : ∀ w' : World, (Instr.slice 9 (.string ⟨x.toArray⟩) (some (.int .i64 8)) (some (.int .i64 120)) none).run Tryd.prog w' = .ok (.string ⟨(getT x).toArray⟩) w' := fun w' => run_sub x 8 120 (by omega) (by omega) w'
  have N1 := Lib.hid (numberQ (x.take 4) (by simp; omega))
  have N2 := Lib.hid (numberQ ((x.drop 4).take 4) (by simp; omega))
  have hb : getB x = (decide (x.take 8 = x.drop 120) && mayB (getA x) (getP x)) := by
    unfold getB; rw [decide_eq_true hx, Bool.true_and]
  obtain ⟨F8, hF8⟩ : ∃ F8, F8 = x.take 8 := ⟨_, rfl⟩
  obtain ⟨L8, hL8⟩ : ∃ L8, L8 = x.drop 120 := ⟨_, rfl⟩
  rw [← hF8] at e1 hb
  rw [← hL8] at e2 hb
  clear hF8 hL8
  have hbx : (x.length : Int) = 128 := hx'
  by_cases hE : F8 = L8
  rotate_left
  · have q1 : (F8 == L8) = false := by simpa using hE
    have q2 : (F8 != L8) = true := by simpa using hE
    have HV := Lib.hid (getV_false (x := x) (by rw [hb, decide_eq_false hE]; rfl))
    clear hb hE hx
    go_enter Tryd.func20, Tryd.ntmps20
    go_wp2_with fail
    go_quiet (fail)
    go_wp2
    go_returns
    rw [HV.out]
    exact ⟨rfl, O.drewN _⟩
  subst hE
  rw [decide_eq_true rfl, Bool.true_and] at hb
  cases hm : mayB (getA x) (getP x) with
  | false =>
    have M := Lib.hid (mayQ _ _ _ hm)
    have HV := Lib.hid (getV_false (x := x) (hb.trans hm))
    clear hb hm hx
    unfold getA getP at M
    go_enter Tryd.func20, Tryd.ntmps20
    go_wp2_with fail
    go_quiet (first
      | (go_at_call 30; with_reducible exact Calls.quiet_of_same (N1.out _))
      | (go_at_call 30; with_reducible exact Calls.quiet_of_same (N2.out _))
      | (go_at_call 26; with_reducible exact Calls.quiet_of_same (M.out _)))
    go_wp2
    go_returns
    rw [HV.out]
    exact ⟨rfl, O.drewN _⟩
  | true =>
    have M := Lib.hid (mayQ _ _ _ hm)
    have HV := Lib.hid (getV_true (x := x) (hb.trans hm))
    clear hb hm hx
    unfold getA getP at M
    go_enter Tryd.func20, Tryd.ntmps20
    go_wp2_with fail
    go_quiet (first
      | (go_at_call 30; with_reducible exact Calls.quiet_of_same (N1.out _))
      | (go_at_call 30; with_reducible exact Calls.quiet_of_same (N2.out _))
      | (go_at_call 26; with_reducible exact Calls.quiet_of_same (M.out _)))
    have OD : Own w0 (w.drewN nq) L := O.drewN nq
    generalize w.drewN nq = W at OD ⊢
    go_wp2_with fail
    go_quiet (first
      | (go_at_call 30; with_reducible exact Calls.quiet_of_same (N1.out _))
      | (go_at_call 30; with_reducible exact Calls.quiet_of_same (N2.out _)))
    go_wp2
    go_returns
    rw [HV.out]
    exact ⟨rfl, OD.drewN _⟩
set_option maxRecDepth 100000 in
set_option maxHeartbeats 2000000 in
theorem ageR_any {w0 w : World} {L : List Piece} (O : Own w0 w L) (x : List UInt8) :
    Calls Tryd.prog 22 #[.string ⟨x.toArray⟩] w fun e w' => e = .returned (.int .i64 (ageS x)) ∧ Own w0 w' L := by
  by_cases hx : x.length = 128
  rotate_left
  · have hx' : ¬ (x.length : Int) = 128 := by omega
    have e : ageS x = 0 := by unfold ageS; rw [if_neg hx]
    rw [e]
    go_enter Tryd.func22, Tryd.ntmps22
    go_wp2
    go_returns
    exact ⟨rfl, O⟩
  have hx' : (x.length : Int) = 128 := by omega
  have e3 : ∀ w' : World, (Instr.slice 9 (.string ⟨x.toArray⟩) none (some (.int .i64 4)) none).run Tryd.prog w' = .ok (.string ⟨(x.take 4).toArray⟩) w' := fun w' => run_toS x 4 (by omega) w'
  have e4 : ∀ w' : World, (Instr.slice 9 (.string ⟨x.toArray⟩) (some (.int .i64 120)) (some (.int .i64 124)) none).run Tryd.prog w' = .ok (.string ⟨((x.drop 120).take 4).toArray⟩) w' := fun w' => run_sub x 120 124 (by omega) (by omega) w'
  have N1 := Lib.hid (numberQ (x.take 4) (by simp; omega))
  have N2 := Lib.hid (numberQ ((x.drop 120).take 4) (by simp; omega))
  have hr : ageS x = max (numL (x.take 4)) (numL ((x.drop 120).take 4)) := by unfold ageS; rw [if_pos hx]
  rw [hr]
  clear hr hx
  go_enter Tryd.func22, Tryd.ntmps22
  go_wp2_with fail
  go_quiet (first
    | (go_at_call 30; with_reducible exact Calls.quiet_of_same (N1.out _))
    | (go_at_call 30; with_reducible exact Calls.quiet_of_same (N2.out _)))
  go_wp2
  go_returns
  exact ⟨by simp; omega, O.drewN _⟩
end Go.Proofs.YtdfkjjopekceoaaDoor
