/- mailroomref09: Show. -/
import Derived.Test.YtnkcanhkdfckmaaDoorHdZ
namespace Go.Proofs.YtnkcanhkdfckmaaDoor
set_option linter.all false
open Go.RowKit Go.Shelf

theorem showB_named {f : Fd} (h : namedB f.1 = false) : showB f = false := by unfold showB; rw [h]; simp
theorem showB_trim {f : Fd} (h : (trimL f.2 == f.2) = false) : showB f = false := by unfold showB; rw [h]; simp
set_option maxRecDepth 100000 in
set_option maxHeartbeats 4000000 in
theorem rShow_own {w0 w : World} {L : List Piece} (O : Own w0 w L) (f : Fd) (h1 : f.1.length ≤ 10000000) (h2 : f.2.length ≤ 10000000) {v : Value} (hv : showV f = v) :
    Calls Tryd.prog 25 #[fdV f] w fun e w' => e = .returned v ∧ Own w0 w' L := by
  obtain ⟨nm, vl⟩ := f
  simp only at h1 h2
  have HS : Hid (namedB nm = true → (trimL vl == vl) = true → showB (nm, vl) = vl.all vc) := fun a b => by unfold showB; rw [a, b]; simp
  have NO : Hid (showB (nm, vl) = false → v = .tuple #[.string ⟨#[]⟩, .int .i64 4]) := fun h => by rw [← hv, showV_no h]
  have YES : Hid (showB (nm, vl) = true → v = .tuple #[.string ⟨(nm ++ ([58, 32] ++ vl)).toArray⟩, .int .i64 0]) := fun h => by rw [← hv, showV_yes h]
  clear hv
  show Calls Tryd.prog 25 #[.agg #[.string ⟨nm.toArray⟩, .string ⟨vl.toArray⟩]] w _
  have O1 := O.newBox #[.string ⟨nm.toArray⟩, .string ⟨vl.toArray⟩] 45
  obtain ⟨B, hB⟩ : ∃ b, b = w.heap.size := ⟨_, rfl⟩
  have c0 := O1.cell 0
  have c1 := O1.cell 1
  have COL := Lib.hid (fun w => colon_any (nm ++ [58]) (by simp; omega) w)
  have TR := Lib.hid (fun w => rtrim_any vl (by omega) w)
  by_cases hne : nm = []
  · have fin := NO.out (showB_named (f := (nm, vl)) (by rw [hne]; rfl))
    subst fin
    subst hne
    clear NO YES HS
    go_enter Tryd.func25, Tryd.ntmps25
    go_wp2_with fail
    go_quiet (fail)
    go_wp2
    refine bodyPost_ret (results_tmp2 rfl _ _ _) rfl ?_
    exact ⟨rfl, (O1.drewN _).drop⟩
  have e1 : nm.isEmpty = false := by cases nm with | nil => exact absurd rfl hne | cons _ _ => rfl
  have e2 : (nm == []) = false := by simpa using hne
  have CN := colon_name hne
  have NB := Lib.hid (fun h => NO.out (showB_named (f := (nm, vl)) h))
  generalize hnb : namedB nm = nb at CN HS NB
  clear hnb
  generalize colonN (nm ++ [58]) = cn at CN COL
  cases nb
  · have fin := NB.out rfl
    subst fin
    rw [Bool.not_false] at CN
    clear NO YES HS NB TR hne
    go_enter Tryd.func25, Tryd.ntmps25
    go_wp2_with fail
    go_quiet ((go_at_call 44; with_reducible exact Calls.quiet_of_same (COL.out _)))
    go_wp2
    refine bodyPost_ret (results_tmp2 rfl _ _ _) rfl ?_
    exact ⟨rfl, (O1.drewN _).drop⟩
  rw [Bool.not_true] at CN
  have TB := Lib.hid (fun h => NO.out (showB_trim (f := (nm, vl)) h))
  simp only at TB
  generalize trimL vl = tv at TR HS TB
  obtain ⟨tq, htq⟩ : ∃ b, (tv == vl) = b := ⟨_, rfl⟩
  rw [htq] at HS TB
  have hq : (tv != vl) = !tq := by rw [bne, htq]
  cases tq
  · have fin := TB.out rfl
    subst fin
    rw [Bool.not_false] at hq
    clear NO YES HS NB TB hne
    go_enter Tryd.func25, Tryd.ntmps25
    go_wp2_with fail
    go_quiet (first
      | (go_at_call 44; with_reducible exact Calls.quiet_of_same (COL.out _))
      | (go_at_call 45; with_reducible exact Calls.quiet_of_same (TR.out _)))
    go_wp2
    refine bodyPost_ret (results_tmp2 rfl _ _ _) rfl ?_
    exact ⟨rfl, (O1.drewN _).drop⟩
  rw [Bool.not_true] at hq
  have HS2 := Lib.hid (HS.out rfl rfl)
  clear HS NB TB hne
  go_enter Tryd.func25, Tryd.ntmps25
  go_wp2_with fail
  go_quiet (first
    | (go_at_call 44; with_reducible exact Calls.quiet_of_same (COL.out _))
    | (go_at_call 45; with_reducible exact Calls.quiet_of_same (TR.out _)))
  have O2 := O1.drewN nq
  clear O1 c0 c1 O COL TR hq CN htq
  generalize (w.alloc (.cells #[.string ⟨nm.toArray⟩, .string ⟨vl.toArray⟩] 45)).drewN nq = W at O2 ⊢
  rw [← hB] at O2 ⊢
  clear hB
  have c0 := O2.cell 0
  have c1 := O2.cell 1
  go_wp2_with fail
  go_loopw [4] (fun iv wr => ∃ k : Nat, k ≤ vl.length ∧ iv = .int .i64 k ∧ Hid ((vl.take k).all vc = true) ∧ wr = W) (fun iv _ => vl.length - (intOf iv).toNat)
  case atStart => exact ⟨0, by omega, rfl, rfl, by trivial⟩
  case round =>
    obtain ⟨k, hk, rfl, HA, rfl⟩ := hrel
    by_cases hlt : k < vl.length
    · have hb1 : (k : Int) < (vl.length : Int) := by omega
      have NX : Hid ((vl.take (k + 1)).all vc = vc vl[k]) := by
        unfold Hid; rw [List.take_succ_eq_append_getElem hlt, List.all_append, HA.out]; simp
      have OFF : Hid (vc vl[k] = false → v = .tuple #[.string ⟨#[]⟩, .int .i64 4]) := by
        intro h
        refine NO.out ?_
        rw [HS2.out]
        rw [List.all_eq_false]; exact ⟨vl[k], List.getElem_mem hlt, by simpa using h⟩
      have c9 := bq_is vl[k] 9 9 rfl
      have VC : Hid (vc vl[k] = ((vl[k] == 9) || decide (32 ≤ vl[k].toNat ∧ vl[k].toNat ≤ 126))) := rfl
      rcases Bool.eq_false_or_eq_true (vl[k] == 9) with q | q
      · have NX2 : Hid ((vl.take (k + 1)).all vc = true) := NX.out.trans (by rw [VC.out, q]; rfl)
        rw [q] at c9
        have c9' : ((vl[k].toNat : Int) != 9) = false := by rw [bne, c9]; rfl
        clear NX OFF VC q
        go_wp2_with fail
        go_roundw
        case rel => exact ⟨k + 1, by omega, by go_num, NX2, by trivial⟩
        case measure => simp [intOf]; omega
      rw [q] at c9
      have c9' : ((vl[k].toNat : Int) != 9) = true := by rw [bne, c9]; rfl
      by_cases g1 : (vl[k].toNat : Int) < 32
      · have fin := OFF.out (by rw [VC.out, q, decide_eq_false (by omega)]; rfl)
        subst fin
        clear NX OFF VC HS2 NO YES q
        go_wp2
        refine bodyPost_ret (results_tmp2 rfl _ _ _) rfl ?_
        exact ⟨rfl, O2.drop⟩
      by_cases g2 : 126 < (vl[k].toNat : Int)
      · have fin := OFF.out (by rw [VC.out, q, decide_eq_false (by omega)]; rfl)
        subst fin
        clear NX OFF VC HS2 NO YES q
        go_wp2
        refine bodyPost_ret (results_tmp2 rfl _ _ _) rfl ?_
        exact ⟨rfl, O2.drop⟩
      have NX2 : Hid ((vl.take (k + 1)).all vc = true) := NX.out.trans (by rw [VC.out, q, decide_eq_true (by omega)]; rfl)
      clear NX OFF VC q
      go_wp2_with fail
      go_roundw
      case rel => exact ⟨k + 1, by omega, by go_num, NX2, by trivial⟩
      case measure => simp [intOf]; omega
    · obtain rfl : k = vl.length := by omega
      have E := HA.out
      rw [List.take_length] at E
      have fin := YES.out (by rw [HS2.out, E])
      subst fin
      clear HA E HS2 NO YES
      go_wp2
      refine bodyPost_ret (results_tmp2 rfl _ _ _) rfl ?_
      exact ⟨by first | rfl | simp, O2.drop⟩
end Go.Proofs.YtnkcanhkdfckmaaDoor
