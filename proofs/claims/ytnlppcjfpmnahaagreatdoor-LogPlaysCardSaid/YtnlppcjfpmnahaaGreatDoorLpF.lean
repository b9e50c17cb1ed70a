/- mailroomlaw12.like; printed by wip/lpf.py. -/
import Derived.Test.YtnlppcjfpmnahaaGreatDoorMgLp
namespace Go.Proofs.YtnlppcjfpmnahaaGreatDoor
set_option linter.all false
open Go.RowKit

theorem recsL_len (age : Int) : ∀ (f : Nat) (p : Int) (l : List (List UInt8)), (recsL age f p l).length ≤ f
  | 0, p, l => by simp [recsL]
  | f + 1, p, l => by
    rw [recsL]
    split
    · have := recsL_len age f (p + joinM l) (l.drop (joinM l))
      simp only [List.length_cons]
      omega
    · simp
theorem scan_len (m : Dk) (hn : m.n ≤ 1024) (h : Int) : (m.scan h).2.1.length ≤ 1024 := by
  unfold Dk.scan
  split
  · simp
  · split
    · simp
    · have hl := secsL_len m (h.toNat * (m.n / 2)) (m.n / 2)
      generalize secsL m (h.toNat * (m.n / 2)) (m.n / 2) = l at hl
      cases l with
      | nil => simp [toldL]
      | cons x r =>
        unfold toldL
        simp only
        split
        · have := recsL_len (getA x) (r.length + 1) 0 (x :: r)
          simp only [List.length_cons] at hl
          show (recsL (getA x) (r.length + 1) 0 (x :: r)).length ≤ 1024
          omega
        · simp
set_option maxRecDepth 100000 in
set_option maxHeartbeats 8000000 in
theorem roomlike_own {w0 w : World} {L : List Piece} {R n c : Nat} (H : RoomAt w0 w L R n c) (hn : n ≤ 40) :
    Calls Tryz.prog 31 #[.pointer (some ⟨R, 0, none⟩)] w fun e w' => e = .returned (.bool true) ∧ RoomAt w0 w' L R n c := by
  obtain ⟨lg, mg, d, k, m, x0, x1, g0, g1, F, N, O0⟩ := H
  have G0 := Lib.hid g0
  have G1 := Lib.hid g1
  have FH := Lib.hid F
  clear g0 g1 F
  have SCN := Lib.hid (fun (h : Int) w' (LL : List Piece) (o : Own w0 w' (dk (.pointer (some ⟨d, 0, none⟩)) m :: LL)) => scan_own o (by omega) h)
  have XCN := Lib.hid (fun (h : Int) w' (LL : List Piece) (o : Own w0 w' (xk (.pointer (some ⟨k, 0, none⟩)) m :: LL)) => xscan_own o (by omega) h)
  have TP := Lib.hid (fun w' (LL : List Piece) (o : Own w0 w' (dk (.pointer (some ⟨d, 0, none⟩)) m :: LL)) => top_own o (by omega))
  have XT := Lib.hid (fun w' (LL : List Piece) (o : Own w0 w' (xk (.pointer (some ⟨k, 0, none⟩)) m :: LL)) => xtop_own o (by omega))
  have OPS := Lib.hid (fun w' (LL : List Piece) (o : Own w0 w' (dk (.pointer (some ⟨d, 0, none⟩)) m :: LL)) => ops_any o)
  have ONN := Lib.hid (fun w' (LL : List Piece) (o : Own w0 w' (dk (.pointer (some ⟨d, 0, none⟩)) m :: LL)) => on_any o)
  have NN := Lib.hid N
  clear N
  go_enter Tryz.func31, Tryz.ntmps31
  go_wp2_with fail
  go_loopw [3] (fun iv wx => ∃ h : Int, iv = .int .i64 h ∧ -1 ≤ h ∧ h ≤ 3 ∧ Own w0 wx (dk (.pointer (some ⟨d, 0, none⟩)) m :: xk (.pointer (some ⟨k, 0, none⟩)) m :: rowP lg [lp x0, lp x1] :: rowX mg [rp x0, rp x1] :: box R (rcells d k lg mg) 66 :: pr x0 (.pointer (some ⟨d, 0, none⟩)) (.pointer (some ⟨k, 0, none⟩)) :: pr x1 (.pointer (some ⟨d, 0, none⟩)) (.pointer (some ⟨k, 0, none⟩)) :: L)) (fun iv _ => (3 - intOf iv).toNat)
  case atStart => exact ⟨-1, rfl, by omega, by omega, O0⟩
  case round =>
    clear O0
    obtain ⟨h, rfl, h1, h2, O⟩ := hrel
    by_cases hlt : h ≤ 2
    · have hb1 : ¬ 2 < h := by omega
      have r0 : wr.cell? ⟨R, 0, none⟩ = some (.pointer (some ⟨d, 0, none⟩)) := O.boxCell (show box R (rcells d k lg mg) 66 ∈ _ by simp) 0
      have SC := SCN.out h _ _ O
      have XC := Lib.hid (XCN.out h)
      have SLh := scan_len m (by have := NN.out; omega) h
      unfold ScanPost at SC
      unfold XScanPost at XC
      generalize m.scan h = RR at SC XC SLh
      obtain ⟨ra, rl, re⟩ := RR
      simp only at SC XC SLh
      go_wp2_with fail
      refine SC.mono ?_
      clear SC O r0
      rintro _ wa ⟨v, rfl, O⟩
      have r1 : wa.cell? ⟨R, 1, none⟩ = some (.pointer (some ⟨k, 0, none⟩)) := O.boxCell (show box R (rcells d k lg mg) 66 ∈ _ by simp) 1
      have O2 := O.selK 3 [2, 0, 1]
      try simp only [List.map_cons, List.map_nil, List.getD_cons_zero, List.getD_cons_succ, List.eraseIdx_cons_zero, List.eraseIdx_cons_succ, List.getElem_cons_zero, List.getElem_cons_succ, List.take_succ_cons, List.take_zero, List.drop_succ_cons, List.drop_zero, List.cons_append, List.nil_append, List.append_eq] at O2
      have XC2 := XC.out _ _ O2
      clear XC O
      go_wp2_with fail
      refine XC2.mono ?_
      clear XC2 O2 r1
      rintro _ wb ⟨v2, rfl, O⟩
      obtain ⟨a1, cap1, hv1⟩ := (O.pick 2).shape
      obtain ⟨a2, cap2, rfl⟩ := O.shape
      subst hv1
      obtain ⟨len, hlen⟩ : ∃ x, x = rl.length := ⟨_, rfl⟩
      rw [← hlen] at O SLh ⊢
      have HLEN := Lib.hid hlen
      clear hlen
      have O2 : Own w0 wb (strs (.slice a1 len cap1) rl :: strs (.slice a2 len cap2) rl :: dk (.pointer (some ⟨d, 0, none⟩)) m :: xk (.pointer (some ⟨k, 0, none⟩)) m :: rowP lg [lp x0, lp x1] :: rowX mg [rp x0, rp x1] :: box R (rcells d k lg mg) 66 :: pr x0 (.pointer (some ⟨d, 0, none⟩)) (.pointer (some ⟨k, 0, none⟩)) :: pr x1 (.pointer (some ⟨d, 0, none⟩)) (.pointer (some ⟨k, 0, none⟩)) :: L) := O.selK 4 [2, 0, 3, 1]
      clear O
      go_wp2_with fail
      go_loopw [10] (fun iv wx => ∃ (i : Nat) (ls : List (List UInt8)), iv = .int .i64 i ∧ i ≤ len ∧ Hid (ls.length = len ∧ ∀ j, i ≤ j → ls[j]? = rl[j]?) ∧ Own w0 wx (strs (.slice a1 len cap1) ls :: strs (.slice a2 len cap2) rl :: dk (.pointer (some ⟨d, 0, none⟩)) m :: xk (.pointer (some ⟨k, 0, none⟩)) m :: rowP lg [lp x0, lp x1] :: rowX mg [rp x0, rp x1] :: box R (rcells d k lg mg) 66 :: pr x0 (.pointer (some ⟨d, 0, none⟩)) (.pointer (some ⟨k, 0, none⟩)) :: pr x1 (.pointer (some ⟨d, 0, none⟩)) (.pointer (some ⟨k, 0, none⟩)) :: L)) (fun iv _ => len - (intOf iv).toNat)
      case atStart => exact ⟨0, rl, rfl, by omega, ⟨HLEN.out.symm, fun _ _ => rfl⟩, O2⟩
      case round =>
        clear O2
        obtain ⟨i, ls, rfl, hi, HI, O⟩ := hrel
        by_cases hlt2 : i < len
        · have hb2 : (i : Int) < (len : Int) := by omega
          have hx1 : i < ls.length := by rw [HI.out.1]; exact hlt2
          have hx2 : i < rl.length := by rw [← HLEN.out]; exact hlt2
          obtain ⟨g1, cc1, hv1⟩ := O.shapePos (show 0 < ls.length by omega)
          simp only [Value.slice.injEq] at hv1
          obtain ⟨rfl, -, -⟩ := hv1
          obtain ⟨g2, cc2, hv2⟩ := (O.pick 1).shapePos (show 0 < rl.length by omega)
          simp only [Value.slice.injEq] at hv2
          obtain ⟨rfl, -, -⟩ := hv2
          obtain ⟨-, cx, fx⟩ := O.readRow i hx1
          obtain ⟨-, cy, -⟩ := (O.pick 1).readRow i hx2
          have he : ls[i] = rl[i] := by
            have e := HI.out.2 i (Nat.le_refl _)
            rw [List.getElem?_eq_getElem hx1, List.getElem?_eq_getElem hx2] at e
            exact Option.some.inj e
          rw [he] at cx
          generalize rl[i] = x at cx cy
          have OH := Lib.hid (fun nq => Own.store (O.drewN nq) i [115, 112, 111, 105, 108, 116])
          have HI2 : Hid ((ls.set i [115, 112, 111, 105, 108, 116]).length = len ∧ ∀ j, i + 1 ≤ j → (ls.set i [115, 112, 111, 105, 108, 116])[j]? = rl[j]?) := ⟨by rw [List.length_set]; exact HI.out.1, fun j hj => by rw [List.getElem?_set_ne (show i ≠ j by omega)]; exact HI.out.2 j (by omega)⟩
          clear he hx1 hx2 O HI
          go_wp2_with fail
          go_quiet (fail)
          have OQ := OH.out nq
          clear OH
          go_wp2
          go_roundw
          case rel => exact ⟨i + 1, _, by go_num, by omega, HI2, OQ⟩
          case measure => simp [intOf]; omega
        · obtain rfl : i = len := by omega
          have hb2 : ¬ (i : Int) < (i : Int) := by omega
          have O1 := O.drop.drop
          clear O HI
          go_wp2
          go_roundw
          case rel => exact ⟨h + 1, by go_num, by omega, by omega, O1⟩
          case measure => simp [intOf]; omega
    · have hb1 : 2 < h := by omega
      go_wp2_with fail
      go_loopw [11] (fun iv wx => (iv = .int .i64 0 ∧ Own w0 wx (dk (.pointer (some ⟨d, 0, none⟩)) m :: xk (.pointer (some ⟨k, 0, none⟩)) m :: rowP lg [lp x0, lp x1] :: rowX mg [rp x0, rp x1] :: box R (rcells d k lg mg) 66 :: pr x0 (.pointer (some ⟨d, 0, none⟩)) (.pointer (some ⟨k, 0, none⟩)) :: pr x1 (.pointer (some ⟨d, 0, none⟩)) (.pointer (some ⟨k, 0, none⟩)) :: L)) ∨ (iv = .int .i64 1 ∧ Own w0 wx (dk (.pointer (some ⟨d, 0, none⟩)) m :: xk (.pointer (some ⟨k, 0, none⟩)) m :: rowP lg [lp x0, lp x1] :: rowX mg [rp x0, rp x1] :: box R (rcells d k lg mg) 66 :: pr x0 (.pointer (some ⟨d, 0, none⟩)) (.pointer (some ⟨k, 0, none⟩)) :: pr x1 (.pointer (some ⟨d, 0, none⟩)) (.pointer (some ⟨k, 0, none⟩)) :: L)) ∨ (iv = .int .i64 2 ∧ Own w0 wx (dk (.pointer (some ⟨d, 0, none⟩)) m :: xk (.pointer (some ⟨k, 0, none⟩)) m :: rowP lg [lp x0, lp x1] :: rowX mg [rp x0, rp x1] :: box R (rcells d k lg mg) 66 :: pr x0 (.pointer (some ⟨d, 0, none⟩)) (.pointer (some ⟨k, 0, none⟩)) :: pr x1 (.pointer (some ⟨d, 0, none⟩)) (.pointer (some ⟨k, 0, none⟩)) :: L))) (fun iv _ => (2 - intOf iv).toNat)
      case atStart => exact .inl ⟨rfl, O⟩
      case round =>
        clear O
        rcases hrel with ⟨rfl, O⟩ | ⟨rfl, O⟩ | ⟨rfl, O⟩
        · have r2 : wr.cell? ⟨R, 2, none⟩ = some (.slice (some ⟨lg, 0, none⟩) 2 2) := O.boxCell (show box R (rcells d k lg mg) 66 ∈ _ by simp) 2
          have r3 : wr.cell? ⟨R, 3, none⟩ = some (.slice (some ⟨mg, 0, none⟩) 2 2) := O.boxCell (show box R (rcells d k lg mg) 66 ∈ _ by simp) 3
          have m0 := (rowX_at O (show rowX mg [rp x0, rp x1] ∈ _ by simp)).1
          have l0 := (rowP_at O (show rowP lg [lp x0, lp x1] ∈ _ by simp)).1
          have OH := Lib.hid (fun nq => O.drewN nq)
          cases hx : x0
          · have HX := Lib.hid hx
            rw [hx] at m0 l0
            have m1 : wr.cell? ⟨mg, 0, none⟩ = some (.pointer none) := m0
            clear m0 l0 hx O
            go_wp2_with fail
            go_quiet (fail)
            have OQ := OH.out nq
            rw [HX.out] at OQ
            clear r2 r3 m1 OH
            go_wp2
            go_roundw
            case rel => exact .inr (.inl ⟨by go_num, OQ⟩)
            case measure => simp [intOf]
          · rename_i qq
            obtain ⟨q, y, l⟩ := qq
            have HX := Lib.hid hx
            have O1 := O.pick 5
            rw [hx] at m0 l0 O1
            have O2 := Own.unpack O1
            have m1 : wr.cell? ⟨mg, 0, none⟩ = some (.pointer (some ⟨y, 0, none⟩)) := m0
            have l1 : wr.cell? ⟨lg, 0, none⟩ = some (.pointer (some ⟨q, 0, none⟩)) := l0
            have gg := G0.out q y l hx
            have RM := Lib.hid (fun nq => room_own (O2.drewN nq) gg.2.1 (by omega))
            have y2 : wr.cell? ⟨y, 2, none⟩ = some (.int .i64 l.many) := Own.cell (O2.pick 1) 2
            have y4 : wr.cell? ⟨y, 4, none⟩ = some (.int .i64 l.used) := Own.cell (O2.pick 1) 4
            have s1 : IntKind.i64.wrap ((l.many : Int) - (l.used : Int)) = ((l.many - l.used : Nat) : Int) := by rw [IntWalk.i64_in _ (by omega)]; omega
            clear m0 l0 hx O O1 O2 gg
            go_wp2_with fail
            go_quiet (first
              | (go_at_call 24; with_reducible exact Calls.quiet_of (RM.out _)))
            have OQ := OH.out nq
            rw [HX.out] at OQ
            clear r2 r3 m1 l1 y2 y4 OH RM
            go_wp2
            go_roundw
            case rel => exact .inr (.inl ⟨by go_num, OQ⟩)
            case measure => simp [intOf]
        · have r2 : wr.cell? ⟨R, 2, none⟩ = some (.slice (some ⟨lg, 0, none⟩) 2 2) := O.boxCell (show box R (rcells d k lg mg) 66 ∈ _ by simp) 2
          have r3 : wr.cell? ⟨R, 3, none⟩ = some (.slice (some ⟨mg, 0, none⟩) 2 2) := O.boxCell (show box R (rcells d k lg mg) 66 ∈ _ by simp) 3
          have m0 := (rowX_at O (show rowX mg [rp x0, rp x1] ∈ _ by simp)).2.2.1
          have l0 := (rowP_at O (show rowP lg [lp x0, lp x1] ∈ _ by simp)).2.2.1
          have OH := Lib.hid (fun nq => O.drewN nq)
          cases hx : x1
          · have HX := Lib.hid hx
            rw [hx] at m0 l0
            have m1 : wr.cell? ⟨mg, 1, none⟩ = some (.pointer none) := m0
            clear m0 l0 hx O
            go_wp2_with fail
            go_quiet (fail)
            have OQ := OH.out nq
            rw [HX.out] at OQ
            clear r2 r3 m1 OH
            go_wp2
            go_roundw
            case rel => exact .inr (.inr ⟨by go_num, OQ⟩)
            case measure => simp [intOf]
          · rename_i qq
            obtain ⟨q, y, l⟩ := qq
            have HX := Lib.hid hx
            have O1 := O.pick 6
            rw [hx] at m0 l0 O1
            have O2 := Own.unpack O1
            have m1 : wr.cell? ⟨mg, 1, none⟩ = some (.pointer (some ⟨y, 0, none⟩)) := m0
            have l1 : wr.cell? ⟨lg, 1, none⟩ = some (.pointer (some ⟨q, 0, none⟩)) := l0
            have gg := G1.out q y l hx
            have RM := Lib.hid (fun nq => room_own (O2.drewN nq) gg.2.1 (by omega))
            have y2 : wr.cell? ⟨y, 2, none⟩ = some (.int .i64 l.many) := Own.cell (O2.pick 1) 2
            have y4 : wr.cell? ⟨y, 4, none⟩ = some (.int .i64 l.used) := Own.cell (O2.pick 1) 4
            have s1 : IntKind.i64.wrap ((l.many : Int) - (l.used : Int)) = ((l.many - l.used : Nat) : Int) := by rw [IntWalk.i64_in _ (by omega)]; omega
            clear m0 l0 hx O O1 O2 gg
            go_wp2_with fail
            go_quiet (first
              | (go_at_call 24; with_reducible exact Calls.quiet_of (RM.out _)))
            have OQ := OH.out nq
            rw [HX.out] at OQ
            clear r2 r3 m1 l1 y2 y4 OH RM
            go_wp2
            go_roundw
            case rel => exact .inr (.inr ⟨by go_num, OQ⟩)
            case measure => simp [intOf]
        · have OT := TP.out _ _ O
          have XT2 := Lib.hid XT.out
          generalize m.topV = tv at OT XT2
          obtain ⟨tv, te⟩ := tv
          simp only at OT XT2
          have r0 : wr.cell? ⟨R, 0, none⟩ = some (.pointer (some ⟨d, 0, none⟩)) := O.boxCell (show box R (rcells d k lg mg) 66 ∈ _ by simp) 0
          clear O
          go_wp2_with fail
          refine OT.mono ?_
          clear OT r0
          rintro _ wa ⟨rfl, O⟩
          have r1 : wa.cell? ⟨R, 1, none⟩ = some (.pointer (some ⟨k, 0, none⟩)) := O.boxCell (show box R (rcells d k lg mg) 66 ∈ _ by simp) 1
          have O2 := O.pick 1
          try simp only [List.map_cons, List.map_nil, List.getD_cons_zero, List.getD_cons_succ, List.eraseIdx_cons_zero, List.eraseIdx_cons_succ, List.getElem_cons_zero, List.getElem_cons_succ, List.take_succ_cons, List.take_zero, List.drop_succ_cons, List.drop_zero, List.cons_append, List.nil_append, List.append_eq] at O2
          clear O
          go_wp2_with fail
          refine (XT2.out _ _ O2).mono ?_
          clear XT2 O2 r1
          rintro _ wb ⟨rfl, O⟩
          have O2 := O.pick 1
          try simp only [List.map_cons, List.map_nil, List.getD_cons_zero, List.getD_cons_succ, List.eraseIdx_cons_zero, List.eraseIdx_cons_succ, List.getElem_cons_zero, List.getElem_cons_succ, List.take_succ_cons, List.take_zero, List.drop_succ_cons, List.drop_zero, List.cons_append, List.nil_append, List.append_eq] at O2
          have r0 : wb.cell? ⟨R, 0, none⟩ = some (.pointer (some ⟨d, 0, none⟩)) := O.boxCell (show box R (rcells d k lg mg) 66 ∈ _ by simp) 0
          have r1 : wb.cell? ⟨R, 1, none⟩ = some (.pointer (some ⟨k, 0, none⟩)) := O.boxCell (show box R (rcells d k lg mg) 66 ∈ _ by simp) 1
          obtain ⟨-, n3, n6⟩ := O.xkCells
          have OP1 : Hid (∀ nq, Calls Tryz.prog 27 #[(.pointer (some ⟨d, 0, none⟩))] (wb.drewN nq) fun e w' => e = .returned (.int .i64 m.ops) ∧ w' = wb.drewN nq) := fun nq => (OPS.out _ _ (O2.drewN nq)).mono fun _ _ h => ⟨h.1, h.2.symm⟩
          have ON1 : Hid (∀ nq, Calls Tryz.prog 18 #[(.pointer (some ⟨d, 0, none⟩))] (wb.drewN nq) fun e w' => e = .returned (.bool (!m.off)) ∧ w' = wb.drewN nq) := fun nq => (ONN.out _ _ (O2.drewN nq)).mono fun _ _ h => ⟨h.1, h.2.symm⟩
          have FIN := Lib.hid (fun nq => O2.drewN nq)
          clear O O2 OPS ONN
          cases ho : m.off
          · rw [ho] at n6 ON1
            clear ho
            go_wp2_with fail
            go_quiet (first
              | (go_at_call 27; with_reducible exact Calls.quiet_of_same (OP1.out _))
              | (go_at_call 18; with_reducible exact Calls.quiet_of_same (ON1.out _)))
            have OQ := FIN.out nq
            clear r0 r1 n3 n6 FIN OP1 ON1
            go_wp2
            go_ret
            exact ⟨rfl, lg, mg, d, k, m, x0, x1, G0.out, G1.out, FH.out, NN.out, OQ⟩
          · rw [ho] at n6 ON1
            clear ho
            go_wp2_with fail
            go_quiet (first
              | (go_at_call 27; with_reducible exact Calls.quiet_of_same (OP1.out _))
              | (go_at_call 18; with_reducible exact Calls.quiet_of_same (ON1.out _)))
            have OQ := FIN.out nq
            clear r0 r1 n3 n6 FIN OP1 ON1
            go_wp2
            go_ret
            exact ⟨rfl, lg, mg, d, k, m, x0, x1, G0.out, G1.out, FH.out, NN.out, OQ⟩
end Go.Proofs.YtnlppcjfpmnahaaGreatDoor
