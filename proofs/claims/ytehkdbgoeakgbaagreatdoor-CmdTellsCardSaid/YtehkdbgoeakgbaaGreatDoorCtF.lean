/- mailroomref07.Parse. -/
import Derived.Test.YtehkdbgoeakgbaaGreatDoorCtE
import Derived.Test.YtehkdbgoeakgbaaGreatDoorAdSU
namespace Go.Proofs.YtehkdbgoeakgbaaGreatDoor
set_option linter.all false
open Go.RowKit Go.Shelf

set_option maxRecDepth 100000 in
set_option maxHeartbeats 4000000 in
theorem rparse7_own {w0 w : World} {L : List Piece} (O : Own w0 w L) (s : List UInt8) (hs : s.length ≤ 1000000) :
    Calls Tryz.prog 17 #[.string ⟨s.toArray⟩] w (RParsePost w0 L s) := by
  have O1 := O.newBox #[.int .u8 0, .string ⟨#[]⟩, .slice none 0 0] 30
  obtain ⟨RB, hRB⟩ : ∃ b, b = w.heap.size := ⟨_, rfl⟩
  rw [← hRB] at O1
  clear O
  by_cases h5 : 510 < s.length
  · have h5' : (510 : Int) < (s.length : Int) := by omega
    have FIN := fun w' (O : Own w0 w' L) => Lib.hid (rpost_long (w' := w') h5 O)
    go_enter Tryz.func17, Tryz.ntmps17
    go_upto_region 1 with fail
    rw [← hRB]
    clear hRB
    generalize (w.alloc (.cells #[.int .u8 0, .string ⟨#[]⟩, .slice none 0 0] 30)) = W at O1 ⊢
    have s0 := O1.cell 0
    have s1 := O1.cell 1
    have s2 := O1.cell 2
    have f := O1.free
    have P1 := O1.set 0 (.int .u8 0)
    have P2 := P1.set 1 (.string ⟨#[]⟩)
    have P3 := P2.set 2 (.slice none 0 0)
    have t0 := P3.cell 0
    have t1 := P3.cell 1
    have t2 := P3.cell 2
    have f1 := P1.free
    have f2 := P2.free
    go_wp2
    refine bodyPost_ret (v := .tuple #[.agg #[.int .u8 0, .string ⟨#[]⟩, .slice none 0 0], .int .i64 40]) (by simp [results, Tryz.results17, go_sem, t0, t1, t2]; try rfl) rfl ?_
    exact (FIN _ P3.drop).out
  have h5' : ¬ (510 : Int) < (s.length : Int) := by omega
  have h5l : s.length ≤ 510 := by omega
  clear h5
  have PN := Lib.hid (fun (h : parseCm s = none) (w' : World) (O : Own w0 w' L) => rpost_none h h5l O)
  have PY := Lib.hid (fun (c : Cm) (h : parseCm s = some c) (w' : World) (a : Option Addr) (n cap : Nat) (hn : n = c.ps.length) (O : Own w0 w' (rowv 57 2 (.slice a n cap) n (flatP c.ps) :: L)) => rpost_some h h5l hn O)
  go_enter Tryz.func17, Tryz.ntmps17
  go_upto_region 3 with fail
  rw [← hRB]
  clear hRB
  generalize (w.alloc (.cells #[.int .u8 0, .string ⟨#[]⟩, .slice none 0 0] 30)) = W at O1 ⊢
  go_wp2_with fail
  go_loopw [4] (fun vv wr => ∃ v : Nat, vv = .int .u8 v ∧ 1 ≤ v ∧ v ≤ 7 ∧ Hid (parseCm s = fromK s v) ∧ Own w0 wr (box RB #[.int .u8 0, .string ⟨#[]⟩, .slice none 0 0] 30 :: L)) (fun vv _ => 7 - (intOf vv).toNat)
  case atStart => exact ⟨1, rfl, by omega, by omega, (show Hid _ from (from_zero s).trans (from_first s)), O1⟩
  case round =>
    clear O1
    obtain ⟨v, rfl, hv1, hv7, HK, O⟩ := hrel
    by_cases h6 : v ≤ 6
    rotate_left
    · obtain rfl : v = 7 := by omega
      have FIN := Lib.hid (PN.out (HK.out.trans (from_end s)))
      clear PN PY HK
      have hb : ¬ ((7 : Nat) : Int) ≤ 6 := by omega
      have s0 := O.cell 0
      have s1 := O.cell 1
      have s2 := O.cell 2
      have f := O.free
      have P1 := O.set 0 (.int .u8 0)
      have P2 := P1.set 1 (.string ⟨#[]⟩)
      have P3 := P2.set 2 (.slice none 0 0)
      have t0 := P3.cell 0
      have t1 := P3.cell 1
      have t2 := P3.cell 2
      have f1 := P1.free
      have f2 := P2.free
      go_wp2
      refine bodyPost_ret (v := .tuple #[.agg #[.int .u8 0, .string ⟨#[]⟩, .slice none 0 0], .int .i64 4]) (by simp [results, Tryz.results17, go_sem, t0, t1, t2]; try rfl) rfl ?_
      exact FIN.out _ P3.drop
    have hb : (v : Int) ≤ 6 := by omega
    have iv : IntKind.u8.wrap ((v : Int) + 1) = (v : Int) + 1 := IntWalk.u8_in _ (by omega)
    have NW := Lib.hid (fun h => HK.out.trans (from_no ⟨hv1, h6⟩ h))
    have YW := Lib.hid (fun h => HK.out.trans (from_yes ⟨hv1, h6⟩ h))
    have WS := Lib.hid (fun h => isWord_short (s := s) (v := v) h)
    have WT := Lib.hid (fun h => isWord_take (s := s) (v := v) h)
    obtain ⟨wl, hwl⟩ : ∃ l, l = wordL v := ⟨_, rfl⟩
    rw [← hwl] at YW WS WT
    have WD := rword_own O v h6 hwl.symm
    clear hwl HK O
    go_wp2_with fail
    refine WD.mono ?_
    clear WD
    rintro _ w1 ⟨rfl, O⟩
    by_cases hl : s.length < wl.length
    · have hl' : (s.length : Int) < (wl.length : Int) := by omega
      have NX := Lib.hid (NW.out (WS.out hl))
      clear NW YW WS WT PN PY hl
      go_wp2
      go_roundw
      case rel => exact ⟨v + 1, by go_num, by omega, by omega, NX, O⟩
      case measure => simp [intOf]; omega
    have hl' : ¬ (s.length : Int) < (wl.length : Int) := by omega
    have ST := run_subTo s wl.length (by omega)
    have SF := run_subFrom s wl.length (by omega)
    have GR := rGreat_own O (s.take wl.length) (by rw [List.length_take]; omega)
    have WT2 := Lib.hid (WT.out (by omega))
    obtain ⟨x, hx⟩ : ∃ x, x = s.take wl.length := ⟨_, rfl⟩
    rw [← hx] at ST GR WT2
    clear hx WS WT
    go_wp2_with fail
    refine GR.mono ?_
    clear GR O
    rintro _ w2 ⟨rfl, O⟩
    rcases Bool.eq_false_or_eq_true (upL x == wl) with q | q
    rotate_left
    · have NX := Lib.hid (NW.out (WT2.out.trans q))
      have q' : (upL x != wl) = true := by rw [bne, q]; rfl
      clear NW YW WT2 PN PY
      go_wp2
      go_roundw
      case rel => exact ⟨v + 1, by go_num, by omega, by omega, NX, O⟩
      case measure => simp [intOf]; omega
    have HP := Lib.hid (YW.out (WT2.out.trans q))
    have e : upL x = wl := by simpa using q
    rw [e]
    clear e q WT2 NW YW
    have hrl : (s.drop wl.length).length ≤ 510 := by rw [List.length_drop]; omega
    obtain ⟨r, hr⟩ : ∃ r, r = s.drop wl.length := ⟨_, rfl⟩
    rw [← hr] at SF HP hrl
    clear hr
    by_cases q34 : v = 3 ∨ v = 4
    rotate_left
    · have e3 : ((v : Int) == 3) = false := by simp; omega
      have e3' : ((v : Int) != 3) = true := by rw [bne, e3]; rfl
      have e4 : ((v : Int) == 4) = false := by simp; omega
      have e4' : ((v : Int) != 4) = true := by rw [bne, e4]; rfl
      obtain ⟨m, hm⟩ : ∃ m, mayCm ⟨v, r, []⟩ = m := ⟨_, rfl⟩
      have HV : Hid (parseCm s = if m = true then some ⟨v, r, []⟩ else none) := by unfold Hid; rw [HP.out]; unfold parseV1; rw [if_neg q34, hm]
      clear HP q34
      obtain ⟨CB, hCB⟩ : ∃ b, b = w2.heap.size := ⟨_, rfl⟩
      have O2 := O.newBox #[.int .u8 v, .string ⟨r.toArray⟩, .slice none 0 0] 30
      rw [← hCB] at O2
      clear O
      have MY := rmay7_own O2 ⟨v, r, []⟩ (a := none) (cap := 0) (n := 0) rfl (show v < 256 by omega) (show r.length ≤ 1000000 by omega) (by omega) (by simp) (fun w' h => PmR.nil _ _ _) hm
      unfold cmV at MY
      simp only at MY
      clear hm
      go_upto_region 11 with fail
      rw [← hCB]
      clear hCB
      generalize (w2.alloc (.cells #[.int .u8 v, .string ⟨r.toArray⟩, .slice none 0 0] 30)) = W4 at O2 MY ⊢
      have c0 := O2.cell 0
      have c1 := O2.cell 1
      have c2 := O2.cell 2
      go_wp2_with fail
      refine MY.mono ?_
      clear MY O2 c0 c1 c2
      rintro _ w5 ⟨rfl, O⟩
      cases m
      · have FIN := Lib.hid (PN.out HV.out)
        clear PN PY HV
        have OY := O.drop
        have s0 := OY.cell 0
        have s1 := OY.cell 1
        have s2 := OY.cell 2
        have f := OY.free
        have P1 := OY.set 0 (.int .u8 0)
        have f1 := P1.free
        have s1' := P1.cell 1
        have P2 := P1.set 1 (.string ⟨#[]⟩)
        have f2 := P2.free
        have s2' := P2.cell 2
        have P3 := P2.set 2 (.slice none 0 0)
        have t0 := P3.cell 0
        have t1 := P3.cell 1
        have t2 := P3.cell 2
        go_wp2
        refine bodyPost_ret (v := .tuple #[.agg #[.int .u8 0, .string ⟨#[]⟩, .slice none 0 0], .int .i64 4]) (by simp [results, Tryz.results17, go_sem, t0, t1, t2]; try rfl) rfl ?_
        exact FIN.out _ P3.drop
      · have FIN := Lib.hid (PY.out ⟨v, r, []⟩ HV.out)
        clear PN PY HV
        have c0 := O.cell 0
        have c1 := O.cell 1
        have c2 := O.cell 2
        have OY := O.pick 1
        have s0 := OY.cell 0
        have s1 := OY.cell 1
        have s2 := OY.cell 2
        have f := OY.free
        have P1 := OY.set 0 (.int .u8 v)
        have f1 := P1.free
        have s1' := P1.cell 1
        have P2 := P1.set 1 (.string ⟨r.toArray⟩)
        have f2 := P2.free
        have s2' := P2.cell 2
        have P3 := P2.set 2 (.slice none 0 0)
        have t0 := P3.cell 0
        have t1 := P3.cell 1
        have t2 := P3.cell 2
        go_wp2
        refine bodyPost_ret (v := .tuple #[.agg #[.int .u8 v, .string ⟨r.toArray⟩, .slice none 0 0], .int .i64 0]) (by simp [results, Tryz.results17, go_sem, t0, t1, t2]; try rfl) rfl ?_
        exact FIN.out _ _ _ _ rfl (P3.drop.drop.nilPm _)
    have Q := Lib.hid q34
    rcases q34 with q3 | q4
    · have e3 : ((v : Int) == 3) = true := by simp; omega
      have e3' : ((v : Int) != 3) = false := by rw [bne, e3]; rfl
      clear q3
      go_wp2_with fail
      go_loopw [8] (fun iv wx => ∃ i : Nat, iv = .int .i64 i ∧ i ≤ r.length ∧ Hid (∀ j, j < i → tryP v r j = none) ∧ Own w0 wx (box RB #[.int .u8 0, .string ⟨#[]⟩, .slice none 0 0] 30 :: L)) (fun iv _ => r.length - (intOf iv).toNat)
      case atStart => exact ⟨0, rfl, by omega, (show Hid _ from fun j h => by omega), O⟩
      case round =>
        clear O
        obtain ⟨i, rfl, hi, HT, O⟩ := hrel
        by_cases hlt : i < r.length
        rotate_left
        · obtain rfl : i = r.length := by omega
          have FIN := Lib.hid (PN.out (HP.out.trans (try_none Q.out HT.out)))
          clear HP HT PN PY Q
          have hb1 : ¬ (r.length : Int) < (r.length : Int) := by omega
          have s0 := O.cell 0
          have s1 := O.cell 1
          have s2 := O.cell 2
          have f := O.free
          have P1 := O.set 0 (.int .u8 0)
          have f1 := P1.free
          have s1' := P1.cell 1
          have P2 := P1.set 1 (.string ⟨#[]⟩)
          have f2 := P2.free
          have s2' := P2.cell 2
          have P3 := P2.set 2 (.slice none 0 0)
          have t0 := P3.cell 0
          have t1 := P3.cell 1
          have t2 := P3.cell 2
          go_wp2
          refine bodyPost_ret (v := .tuple #[.agg #[.int .u8 0, .string ⟨#[]⟩, .slice none 0 0], .int .i64 4]) (by simp [results, Tryz.results17, go_sem, t0, t1, t2]; try rfl) rfl ?_
          exact FIN.out _ P3.drop
        have hb1 : (i : Int) < (r.length : Int) := by omega
        have i1 : IntKind.i64.wrap ((i : Int) + 1) = (i : Int) + 1 := IntWalk.i64_in _ (by omega)
        have S1 := run_subTo r (i + 1) (by omega)
        rw [show ((i + 1 : Nat) : Int) = (i : Int) + 1 by omega] at S1
        have S2 := run_subFrom r (i + 1) (by omega)
        rw [show ((i + 1 : Nat) : Int) = (i : Int) + 1 by omega] at S2
        have hdl : (r.drop (i + 1)).length ≤ 1000000 := by rw [List.length_drop]; omega
        have htl : (r.take (i + 1)).length ≤ 1000000 := by rw [List.length_take]; omega
        have UP := runpath_own O (r.take (i + 1)) htl
        have TN := Lib.hid (fun (h : tryP v r i = none) => (show ∀ j, j < i + 1 → tryP v r j = none from fun j hj => by
          rcases Nat.lt_or_ge j i with h3 | h3
          · exact HT.out j h3
          · obtain rfl : j = i := by omega
            exact h))
        have TS := Lib.hid (fun c h => HP.out.trans (try_some (v := v) (j := i) (r := r) (c := c) Q.out hlt h))
        have T2 := Lib.hid (fun h => try_ps (v := v) (j := i) (r := r) h)
        rcases Bool.eq_false_or_eq_true (unB (r.take (i + 1))) with hu | hu
        rotate_left
        · rw [unV_no hu] at UP
          have NT := Lib.hid (TN.out (try_no hu))
          clear hu TN TS T2 HT HP PN PY Q S2 hdl htl
          generalize r.take (i + 1) = y at S1 UP
          go_wp2_with fail
          refine UP.mono ?_
          clear UP O
          rintro _ w3 ⟨rfl, O⟩
          go_wp2
          go_roundw
          case rel => exact ⟨i + 1, by go_num, by omega, NT, O⟩
          case measure => simp [intOf]; omega
        rw [unV_yes hu] at UP
        have T3 := Lib.hid (fun ps h => try_yes (v := v) (j := i) (r := r) (ps := ps) hu h)
        have ul := unL_len hu
        have xl : (unL (r.take (i + 1))).length ≤ 1000000 := by omega
        clear hu ul htl HT HP
        generalize unL (r.take (i + 1)) = x at UP T3 xl
        generalize r.take (i + 1) = y at S1 UP
        generalize r.drop (i + 1) = z at S2 T2 T3 hdl
        cases hp : parsePs z.length z with
        | none =>
          have NT := Lib.hid (TN.out (T2.out hp))
          have PA := Lib.hid (fun w' (O : Own w0 w' (box RB #[.int .u8 0, .string ⟨#[]⟩, .slice none 0 0] 30 :: L)) => rparams_none O z hdl hp)
          clear hp TN TS T2 T3 PN PY Q hdl
          go_wp2_with fail
          refine UP.mono ?_
          clear UP O
          rintro _ w3 ⟨rfl, O⟩
          go_wp2_with fail
          refine (PA.out _ O).mono ?_
          clear PA O
          rintro _ w4 ⟨rfl, O⟩
          have O2 := O.newBox #[.int .u8 v, .string ⟨x.toArray⟩, .slice none 0 0] 30
          go_wp2
          go_roundw
          case rel => exact ⟨i + 1, by go_num, by omega, NT, O2.drop⟩
          case measure => simp [intOf]; omega
        | some ps =>
          obtain ⟨q1, q2⟩ := parsePs_short _ _ _ hp
          obtain ⟨N, hN⟩ : ∃ N, N = ps.length := ⟨_, rfl⟩
          obtain ⟨m, hm⟩ : ∃ m, mayCm ⟨v, x, ps⟩ = m := ⟨_, rfl⟩
          have T4 := Lib.hid (T3.out ps hp)
          have PA := Lib.hid (fun w' (O : Own w0 w' (box RB #[.int .u8 0, .string ⟨#[]⟩, .slice none 0 0] 30 :: L)) => rparams_some O z hdl hp hN)
          have hNl : N ≤ 1000000 := by omega
          have HN := Lib.hid hN
          have q3 : Hid (∀ p ∈ ps, p.2.length ≤ 1000000000) := fun p hp => by have := q2 p hp; omega
          clear hp T2 T3 q1 q2 hN hdl
          go_wp2_with fail
          refine UP.mono ?_
          clear UP O
          rintro _ w3 ⟨rfl, O⟩
          go_wp2_with fail
          refine (PA.out _ O).mono ?_
          clear PA O
          rintro _ w4 ⟨a2, c2, rfl, O⟩
          obtain ⟨CB, hCB⟩ : ∃ b, b = w4.heap.size := ⟨_, rfl⟩
          have O2 := O.newBox #[.int .u8 v, .string ⟨x.toArray⟩, .slice a2 N c2] 30
          rw [← hCB] at O2
          clear O
          have MY := rmay7_own O2 ⟨v, x, ps⟩ (a := a2) (cap := c2) (n := N) HN.out (show v < 256 by omega) xl (by omega) q3.out (fun w' h => (h.pick 1).pmR) hm
          unfold cmV at MY
          simp only at MY
          go_upto_region 21 with fail
          rw [← hCB]
          clear hCB
          generalize (w4.alloc (.cells #[.int .u8 v, .string ⟨x.toArray⟩, .slice a2 N c2] 30)) = W4 at O2 MY ⊢
          have c0 := O2.cell 0
          have c1 := O2.cell 1
          have c2' := O2.cell 2
          go_wp2_with fail
          refine MY.mono ?_
          clear MY O2 c0 c1 c2'
          rintro _ w5 ⟨rfl, O⟩
          cases m
          · have NT := Lib.hid (TN.out (T4.out.trans (by rw [hm]; rfl)))
            clear TN TS T4 hm PN PY Q q3
            have O3 := O.selK 3 [2]
            go_wp2
            go_roundw
            case rel => exact ⟨i + 1, by go_num, by omega, NT, O3⟩
            case measure => simp [intOf]; omega
          · have FIN := Lib.hid (PY.out ⟨v, x, ps⟩ (TS.out _ (T4.out.trans (by rw [hm]; rfl))))
            clear TN TS T4 hm PN PY Q q3
            have c0 := O.cell 0
            have c1 := O.cell 1
            have c2' := O.cell 2
            have OY := O.selK 3 [2, 0, 1]
            have s0 := OY.cell 0
            have s1 := OY.cell 1
            have s2 := OY.cell 2
            have f := OY.free
            have P1 := OY.set 0 (.int .u8 v)
            have f1 := P1.free
            have s1' := P1.cell 1
            have P2 := P1.set 1 (.string ⟨x.toArray⟩)
            have f2 := P2.free
            have s2' := P2.cell 2
            have P3 := P2.set 2 (.slice a2 N c2)
            have t0 := P3.cell 0
            have t1 := P3.cell 1
            have t2 := P3.cell 2
            go_wp2
            refine bodyPost_ret (v := .tuple #[.agg #[.int .u8 v, .string ⟨x.toArray⟩, .slice a2 N c2], .int .i64 0]) (by simp [results, Tryz.results17, go_sem, t0, t1, t2]; try rfl) rfl ?_
            exact FIN.out _ _ _ _ HN.out (P3.selK 3 [2])
    · have e3 : ((v : Int) == 3) = false := by simp; omega
      have e3' : ((v : Int) != 3) = true := by rw [bne, e3]; rfl
      have e4 : ((v : Int) == 4) = true := by simp; omega
      have e4' : ((v : Int) != 4) = false := by rw [bne, e4]; rfl
      clear q4
      go_wp2_with fail
      go_loopw [8] (fun iv wx => ∃ i : Nat, iv = .int .i64 i ∧ i ≤ r.length ∧ Hid (∀ j, j < i → tryP v r j = none) ∧ Own w0 wx (box RB #[.int .u8 0, .string ⟨#[]⟩, .slice none 0 0] 30 :: L)) (fun iv _ => r.length - (intOf iv).toNat)
      case atStart => exact ⟨0, rfl, by omega, (show Hid _ from fun j h => by omega), O⟩
      case round =>
        clear O
        obtain ⟨i, rfl, hi, HT, O⟩ := hrel
        by_cases hlt : i < r.length
        rotate_left
        · obtain rfl : i = r.length := by omega
          have FIN := Lib.hid (PN.out (HP.out.trans (try_none Q.out HT.out)))
          clear HP HT PN PY Q
          have hb1 : ¬ (r.length : Int) < (r.length : Int) := by omega
          have s0 := O.cell 0
          have s1 := O.cell 1
          have s2 := O.cell 2
          have f := O.free
          have P1 := O.set 0 (.int .u8 0)
          have f1 := P1.free
          have s1' := P1.cell 1
          have P2 := P1.set 1 (.string ⟨#[]⟩)
          have f2 := P2.free
          have s2' := P2.cell 2
          have P3 := P2.set 2 (.slice none 0 0)
          have t0 := P3.cell 0
          have t1 := P3.cell 1
          have t2 := P3.cell 2
          go_wp2
          refine bodyPost_ret (v := .tuple #[.agg #[.int .u8 0, .string ⟨#[]⟩, .slice none 0 0], .int .i64 4]) (by simp [results, Tryz.results17, go_sem, t0, t1, t2]; try rfl) rfl ?_
          exact FIN.out _ P3.drop
        have hb1 : (i : Int) < (r.length : Int) := by omega
        have i1 : IntKind.i64.wrap ((i : Int) + 1) = (i : Int) + 1 := IntWalk.i64_in _ (by omega)
        have S1 := run_subTo r (i + 1) (by omega)
        rw [show ((i + 1 : Nat) : Int) = (i : Int) + 1 by omega] at S1
        have S2 := run_subFrom r (i + 1) (by omega)
        rw [show ((i + 1 : Nat) : Int) = (i : Int) + 1 by omega] at S2
        have hdl : (r.drop (i + 1)).length ≤ 1000000 := by rw [List.length_drop]; omega
        have htl : (r.take (i + 1)).length ≤ 1000000 := by rw [List.length_take]; omega
        have UP := runpath_own O (r.take (i + 1)) htl
        have TN := Lib.hid (fun (h : tryP v r i = none) => (show ∀ j, j < i + 1 → tryP v r j = none from fun j hj => by
          rcases Nat.lt_or_ge j i with h3 | h3
          · exact HT.out j h3
          · obtain rfl : j = i := by omega
            exact h))
        have TS := Lib.hid (fun c h => HP.out.trans (try_some (v := v) (j := i) (r := r) (c := c) Q.out hlt h))
        have T2 := Lib.hid (fun h => try_ps (v := v) (j := i) (r := r) h)
        rcases Bool.eq_false_or_eq_true (unB (r.take (i + 1))) with hu | hu
        rotate_left
        · rw [unV_no hu] at UP
          have NT := Lib.hid (TN.out (try_no hu))
          clear hu TN TS T2 HT HP PN PY Q S2 hdl htl
          generalize r.take (i + 1) = y at S1 UP
          go_wp2_with fail
          refine UP.mono ?_
          clear UP O
          rintro _ w3 ⟨rfl, O⟩
          go_wp2
          go_roundw
          case rel => exact ⟨i + 1, by go_num, by omega, NT, O⟩
          case measure => simp [intOf]; omega
        rw [unV_yes hu] at UP
        have T3 := Lib.hid (fun ps h => try_yes (v := v) (j := i) (r := r) (ps := ps) hu h)
        have ul := unL_len hu
        have xl : (unL (r.take (i + 1))).length ≤ 1000000 := by omega
        clear hu ul htl HT HP
        generalize unL (r.take (i + 1)) = x at UP T3 xl
        generalize r.take (i + 1) = y at S1 UP
        generalize r.drop (i + 1) = z at S2 T2 T3 hdl
        cases hp : parsePs z.length z with
        | none =>
          have NT := Lib.hid (TN.out (T2.out hp))
          have PA := Lib.hid (fun w' (O : Own w0 w' (box RB #[.int .u8 0, .string ⟨#[]⟩, .slice none 0 0] 30 :: L)) => rparams_none O z hdl hp)
          clear hp TN TS T2 T3 PN PY Q hdl
          go_wp2_with fail
          refine UP.mono ?_
          clear UP O
          rintro _ w3 ⟨rfl, O⟩
          go_wp2_with fail
          refine (PA.out _ O).mono ?_
          clear PA O
          rintro _ w4 ⟨rfl, O⟩
          have O2 := O.newBox #[.int .u8 v, .string ⟨x.toArray⟩, .slice none 0 0] 30
          go_wp2
          go_roundw
          case rel => exact ⟨i + 1, by go_num, by omega, NT, O2.drop⟩
          case measure => simp [intOf]; omega
        | some ps =>
          obtain ⟨q1, q2⟩ := parsePs_short _ _ _ hp
          obtain ⟨N, hN⟩ : ∃ N, N = ps.length := ⟨_, rfl⟩
          obtain ⟨m, hm⟩ : ∃ m, mayCm ⟨v, x, ps⟩ = m := ⟨_, rfl⟩
          have T4 := Lib.hid (T3.out ps hp)
          have PA := Lib.hid (fun w' (O : Own w0 w' (box RB #[.int .u8 0, .string ⟨#[]⟩, .slice none 0 0] 30 :: L)) => rparams_some O z hdl hp hN)
          have hNl : N ≤ 1000000 := by omega
          have HN := Lib.hid hN
          have q3 : Hid (∀ p ∈ ps, p.2.length ≤ 1000000000) := fun p hp => by have := q2 p hp; omega
          clear hp T2 T3 q1 q2 hN hdl
          go_wp2_with fail
          refine UP.mono ?_
          clear UP O
          rintro _ w3 ⟨rfl, O⟩
          go_wp2_with fail
          refine (PA.out _ O).mono ?_
          clear PA O
          rintro _ w4 ⟨a2, c2, rfl, O⟩
          obtain ⟨CB, hCB⟩ : ∃ b, b = w4.heap.size := ⟨_, rfl⟩
          have O2 := O.newBox #[.int .u8 v, .string ⟨x.toArray⟩, .slice a2 N c2] 30
          rw [← hCB] at O2
          clear O
          have MY := rmay7_own O2 ⟨v, x, ps⟩ (a := a2) (cap := c2) (n := N) HN.out (show v < 256 by omega) xl (by omega) q3.out (fun w' h => (h.pick 1).pmR) hm
          unfold cmV at MY
          simp only at MY
          go_upto_region 21 with fail
          rw [← hCB]
          clear hCB
          generalize (w4.alloc (.cells #[.int .u8 v, .string ⟨x.toArray⟩, .slice a2 N c2] 30)) = W4 at O2 MY ⊢
          have c0 := O2.cell 0
          have c1 := O2.cell 1
          have c2' := O2.cell 2
          go_wp2_with fail
          refine MY.mono ?_
          clear MY O2 c0 c1 c2'
          rintro _ w5 ⟨rfl, O⟩
          cases m
          · have NT := Lib.hid (TN.out (T4.out.trans (by rw [hm]; rfl)))
            clear TN TS T4 hm PN PY Q q3
            have O3 := O.selK 3 [2]
            go_wp2
            go_roundw
            case rel => exact ⟨i + 1, by go_num, by omega, NT, O3⟩
            case measure => simp [intOf]; omega
          · have FIN := Lib.hid (PY.out ⟨v, x, ps⟩ (TS.out _ (T4.out.trans (by rw [hm]; rfl))))
            clear TN TS T4 hm PN PY Q q3
            have c0 := O.cell 0
            have c1 := O.cell 1
            have c2' := O.cell 2
            have OY := O.selK 3 [2, 0, 1]
            have s0 := OY.cell 0
            have s1 := OY.cell 1
            have s2 := OY.cell 2
            have f := OY.free
            have P1 := OY.set 0 (.int .u8 v)
            have f1 := P1.free
            have s1' := P1.cell 1
            have P2 := P1.set 1 (.string ⟨x.toArray⟩)
            have f2 := P2.free
            have s2' := P2.cell 2
            have P3 := P2.set 2 (.slice a2 N c2)
            have t0 := P3.cell 0
            have t1 := P3.cell 1
            have t2 := P3.cell 2
            go_wp2
            refine bodyPost_ret (v := .tuple #[.agg #[.int .u8 v, .string ⟨x.toArray⟩, .slice a2 N c2], .int .i64 0]) (by simp [results, Tryz.results17, go_sem, t0, t1, t2]; try rfl) rfl ?_
            exact FIN.out _ _ _ _ HN.out (P3.selK 3 [2])
end Go.Proofs.YtehkdbgoeakgbaaGreatDoor
