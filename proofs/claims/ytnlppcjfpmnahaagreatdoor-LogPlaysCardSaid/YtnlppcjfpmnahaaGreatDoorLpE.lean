/- mailroomlaw12.does: a Copy; printed by wip/lpe.py. -/
import Derived.Test.YtnlppcjfpmnahaaGreatDoorMgLp
import Derived.Deep.RegionLaw
namespace Go.Proofs.YtnlppcjfpmnahaaGreatDoor
set_option linter.all false
open Go.RowKit

set_option maxRecDepth 100000 in
set_option maxHeartbeats 8000000 in
theorem does_copy {w0 w : World} {L : List Piece} {R n c : Nat} (H : RoomAt w0 w L R n c) (hn : n ≤ 40) (hn1 : 0 < n) (s : St) (h0 : s.what ≠ 0) (h1 : s.what ≠ 1) (h2 : s.what ≠ 2) (h3 : s.what ≠ 3) (h4 : s.what ≠ 4) :
    Calls Tryz.prog 30 #[.pointer (some ⟨R, 0, none⟩), .agg #[.int .u8 s.what, .int .i64 s.half, .int .i64 s.age, .string ⟨s.s.toArray⟩, .int .i64 s.many, .slice s.ka s.keep.length s.kc]] w fun e w' => e = .returned (.bool true) ∧ RoomAt w0 w' L R n (c + 20) := by
  obtain ⟨lg, mg, d, k, m, x0, x1, g0, g1, F, N, OO⟩ := H
  have G0 := Lib.hid g0
  have G1 := Lib.hid g1
  have FH := Lib.hid (F.mono (show c ≤ c + 20 by omega))
  have f0 : (s.what == 0) = false := by simpa using h0
  have f1 : (s.what == 1) = false := by simpa using h1
  have f2 : (s.what == 2) = false := by simpa using h2
  have f3 : (s.what == 3) = false := by simpa using h3
  have f4 : (s.what == 4) = false := by simpa using h4
  have O1 := OO.newBox #[.int .u8 s.what, .int .i64 s.half, .int .i64 s.age, .string ⟨s.s.toArray⟩, .int .i64 s.many, .slice s.ka s.keep.length s.kc] 69
  obtain ⟨T, hT⟩ : ∃ b, b = w.heap.size := ⟨_, rfl⟩
  rw [← hT] at O1
  have OW := O1.selK 8 [1, 2, 0, 3, 4, 5, 6, 7]
  try simp only [List.map_cons, List.map_nil, List.getD_cons_zero, List.getD_cons_succ, List.eraseIdx_cons_zero, List.eraseIdx_cons_succ, List.getElem_cons_zero, List.getElem_cons_succ, List.take_succ_cons, List.take_zero, List.drop_succ_cons, List.drop_zero, List.cons_append, List.nil_append, List.append_eq] at OW
  clear OO O1 g0 g1 F h0 h1 h2 h3 h4
  have CP := Lib.hid (fun w' (LL : List Piece) (h : Own w0 w' (dk (.pointer (some ⟨d, 0, none⟩)) m :: LL)) => copy_own h)
  have XC := Lib.hid (fun w' (LL : List Piece) (h : Own w0 w' (xk (.pointer (some ⟨k, 0, none⟩)) m :: LL)) => xcopy_own h (by omega) (by omega))
  have NN := Lib.hid N
  clear N
  go_enter Tryz.func30, Tryz.ntmps30
  go_upto_region 1 with fail
  rw [← hT]
  clear hT
  generalize (w.alloc (.cells #[.int .u8 s.what, .int .i64 s.half, .int .i64 s.age, .string ⟨s.s.toArray⟩, .int .i64 s.many, .slice s.ka s.keep.length s.kc] 69)) = W at OW ⊢
  have c0 : W.cell? ⟨T, 0, none⟩ = some (.int .u8 s.what) := OW.boxCell (show box T #[.int .u8 s.what, .int .i64 s.half, .int .i64 s.age, .string ⟨s.s.toArray⟩, .int .i64 s.many, .slice s.ka s.keep.length s.kc] 69 ∈ _ by simp) 0
  have c1 : W.cell? ⟨T, 1, none⟩ = some (.int .i64 s.half) := OW.boxCell (show box T #[.int .u8 s.what, .int .i64 s.half, .int .i64 s.age, .string ⟨s.s.toArray⟩, .int .i64 s.many, .slice s.ka s.keep.length s.kc] 69 ∈ _ by simp) 1
  go_upto_region 3 with fail
  clear c0 c1 f0 f1 f2 f3 f4
  have OV := OW.selK 8 [0, 1, 3, 4, 5, 6, 7]
  try simp only [List.map_cons, List.map_nil, List.getD_cons_zero, List.getD_cons_succ, List.eraseIdx_cons_zero, List.eraseIdx_cons_succ, List.getElem_cons_zero, List.getElem_cons_succ, List.take_succ_cons, List.take_zero, List.drop_succ_cons, List.drop_zero, List.cons_append, List.nil_append, List.append_eq] at OV
  have OD := OV.drew
  clear OW
  have OX := OD.pick 1
  have r0 : W.drew.cell? ⟨R, 0, none⟩ = some (.pointer (some ⟨d, 0, none⟩)) := OD.boxCell (show box R (rcells d k lg mg) 66 ∈ _ by simp) 0
  have r1 : W.drew.cell? ⟨R, 1, none⟩ = some (.pointer (some ⟨k, 0, none⟩)) := OD.boxCell (show box R (rcells d k lg mg) 66 ∈ _ by simp) 1
  clear OV
  go_cut [] from 22 to 37 (fun wx => ∃ a z : Nat, Own w0 wx (box R (rcells a z lg mg) 66 :: dk (.pointer (some ⟨a, 0, none⟩)) m :: xk (.pointer (some ⟨z, 0, none⟩)) m :: rowP lg [lp x0, lp x1] :: rowX mg [rp x0, rp x1] :: pr x0 (.pointer (some ⟨d, 0, none⟩)) (.pointer (some ⟨k, 0, none⟩)) :: pr x1 (.pointer (some ⟨d, 0, none⟩)) (.pointer (some ⟨k, 0, none⟩)) :: L))
  case first =>
    go_region_law
      (first
        | (go_simp; go_at_call 28; (with_reducible refine (CP.out _ _ OD).mono ?_); rintro e1 wa ⟨a, rfl, OE⟩; have r1 : wa.cell? ⟨R, 1, none⟩ = some (.pointer (some ⟨k, 0, none⟩)) := OE.boxCell (show box R (rcells d k lg mg) 66 ∈ _ by simp) 1; have OX := OE.selK 3 [2, 0, 1])
        | (go_simp; go_at_call 51; (with_reducible refine (XC.out _ _ OX).mono ?_); rintro e2 wb ⟨z, rfl, OY⟩; have y0 : wb.cell? ⟨R, 0, none⟩ = some (.pointer (some ⟨d, 0, none⟩)) := OY.boxCell (show box R (rcells d k lg mg) 66 ∈ _ by simp) 0; have yf : ∀ o, wb.frozen? ⟨R, o, none⟩ = false := fun o => OY.boxFree (show box R (rcells d k lg mg) 66 ∈ _ by simp) o; have OZ := OY.selK 7 [6, 2, 0, 3, 1, 4, 5]; have ON := OZ.set 0 (.pointer (some ⟨a, 0, none⟩)); have y1 : (wb.setCell ⟨R, 0, none⟩ (.pointer (some ⟨a, 0, none⟩))).cell? ⟨R, 1, none⟩ = some (.pointer (some ⟨k, 0, none⟩)) := ON.cell 1; have yg : ∀ o, (wb.setCell ⟨R, 0, none⟩ (.pointer (some ⟨a, 0, none⟩))).frozen? ⟨R, o, none⟩ = false := fun o => ON.free o; have OM := ON.set 1 (.pointer (some ⟨z, 0, none⟩))))
    all_goals
      have OM2 : Own w0 ((wb.setCell ⟨R, 0, none⟩ (.pointer (some ⟨a, 0, none⟩))).setCell ⟨R, 1, none⟩ (.pointer (some ⟨z, 0, none⟩))) (box R (rcells a z lg mg) 66 :: dk (.pointer (some ⟨a, 0, none⟩)) m :: xk (.pointer (some ⟨z, 0, none⟩)) m :: rowP lg [lp x0, lp x1] :: rowX mg [rp x0, rp x1] :: pr x0 (.pointer (some ⟨d, 0, none⟩)) (.pointer (some ⟨k, 0, none⟩)) :: pr x1 (.pointer (some ⟨d, 0, none⟩)) (.pointer (some ⟨k, 0, none⟩)) :: L) := OM.selK 7 [0, 1, 2, 5, 6]
      go_wp2
      go_meet
      exact ⟨a, z, OM2⟩
  case rest =>
    obtain ⟨a, z, OM2⟩ := hcut
    clear OX OD CP XC r0 r1
    go_wp2_with fail
    go_loopw [14] (fun iv wx => (iv = .int .i64 0 ∧ Own w0 wx (box R (rcells a z lg mg) 66 :: dk (.pointer (some ⟨a, 0, none⟩)) m :: xk (.pointer (some ⟨z, 0, none⟩)) m :: rowP lg [lp x0, lp x1] :: rowX mg [rp x0, rp x1] :: pr x0 (.pointer (some ⟨d, 0, none⟩)) (.pointer (some ⟨k, 0, none⟩)) :: pr x1 (.pointer (some ⟨d, 0, none⟩)) (.pointer (some ⟨k, 0, none⟩)) :: L)) ∨
      (iv = .int .i64 1 ∧ ∃ y0, goodP y0 n ∧ Own w0 wx (box R (rcells a z lg mg) 66 :: dk (.pointer (some ⟨a, 0, none⟩)) m :: xk (.pointer (some ⟨z, 0, none⟩)) m :: rowP lg [lp y0, lp x1] :: rowX mg [rp y0, rp x1] :: pr y0 (.pointer (some ⟨a, 0, none⟩)) (.pointer (some ⟨z, 0, none⟩)) :: pr x1 (.pointer (some ⟨d, 0, none⟩)) (.pointer (some ⟨k, 0, none⟩)) :: L)) ∨
      (iv = .int .i64 2 ∧ ∃ y0 y1, goodP y0 n ∧ goodP y1 n ∧ Own w0 wx (box R (rcells a z lg mg) 66 :: dk (.pointer (some ⟨a, 0, none⟩)) m :: xk (.pointer (some ⟨z, 0, none⟩)) m :: rowP lg [lp y0, lp y1] :: rowX mg [rp y0, rp y1] :: pr y0 (.pointer (some ⟨a, 0, none⟩)) (.pointer (some ⟨z, 0, none⟩)) :: pr y1 (.pointer (some ⟨a, 0, none⟩)) (.pointer (some ⟨z, 0, none⟩)) :: L))) (fun iv _ => 2 - (intOf iv).toNat)
    case atStart => exact .inl ⟨rfl, OM2⟩
    case round =>
      clear OM2
      rcases hrel with ⟨rfl, O⟩ | ⟨rfl, y0, gy0, O⟩ | ⟨rfl, y0, y1, gy0, gy1, O⟩
      · have r3 : wr.cell? ⟨R, 3, none⟩ = some (.slice (some ⟨mg, 0, none⟩) 2 2) := O.boxCell (show box R (rcells a z lg mg) 66 ∈ _ by simp) 3
        obtain ⟨m0, -, -, -⟩ := rowX_at O (show rowX mg [rp x0, rp x1] ∈ _ by simp)
        cases x0
        · have m1 : wr.cell? ⟨mg, 0, none⟩ = some (.pointer none) := m0
          clear m0
          go_wp2
          go_roundw
          case rel => exact .inr (.inl ⟨by go_num, none, goodP_none _, O⟩)
          case measure => simp [intOf]
        · rename_i qq
          obtain ⟨q, y, l⟩ := qq
          have m1 : wr.cell? ⟨mg, 0, none⟩ = some (.pointer (some ⟨y, 0, none⟩)) := m0
          clear m0
          go_upto_region 8 with fail
          have OV := (O.pick 5).unpack
          try simp only [List.map_cons, List.map_nil, List.getD_cons_zero, List.getD_cons_succ, List.eraseIdx_cons_zero, List.eraseIdx_cons_succ, List.getElem_cons_zero, List.getElem_cons_succ, List.take_succ_cons, List.take_zero, List.drop_succ_cons, List.drop_zero, List.cons_append, List.nil_append, List.append_eq] at OV
          have OD := OV.drew
          clear r3 m1
          have r0 : wr.drew.cell? ⟨R, 0, none⟩ = some (.pointer (some ⟨a, 0, none⟩)) := OD.boxCell (show box R (rcells a z lg mg) 66 ∈ _ by simp) 0
          have r2 : wr.drew.cell? ⟨R, 2, none⟩ = some (.slice (some ⟨lg, 0, none⟩) 2 2) := OD.boxCell (show box R (rcells a z lg mg) 66 ∈ _ by simp) 2
          have l0 : wr.drew.cell? ⟨lg, 0, none⟩ = some (.pointer (some ⟨q, 0, none⟩)) := (rowP_at OD (show rowP lg [lp (some (q, y, l)), lp x1] ∈ _ by simp)).1
          have OVR := Lib.hid (over_own OD (.pointer (some ⟨a, 0, none⟩)) ⟨_, rfl⟩ ⟨_, rfl⟩)
          clear O OV 
          go_cut [] from 50 to 67 (fun wx => ∃ q2 : Nat, Own w0 wx (rowP lg [lp (some (q2, y, l)), lp x1] :: lgb q2 l (.pointer (some ⟨a, 0, none⟩)) :: xlb y l (.pointer (some ⟨k, 0, none⟩)) :: box R (rcells a z lg mg) 66 :: dk (.pointer (some ⟨a, 0, none⟩)) m :: xk (.pointer (some ⟨z, 0, none⟩)) m :: rowX mg [rp (some (q, y, l)), rp x1] :: pr x1 (.pointer (some ⟨d, 0, none⟩)) (.pointer (some ⟨k, 0, none⟩)) :: L))
          case first =>
            go_region_law
              (first
                | (go_simp; go_at_call 25; (with_reducible refine (OVR.out).mono ?_); rintro e3 wo ⟨q2, rfl, OE⟩; have o2 : wo.cell? ⟨R, 2, none⟩ = some (.slice (some ⟨lg, 0, none⟩) 2 2) := OE.boxCell (show box R (rcells a z lg mg) 66 ∈ _ by simp) 2; have ol : wo.cell? ⟨lg, 0, none⟩ = some (.pointer (some ⟨q, 0, none⟩)) := (rowP_at OE (show rowP lg [lp (some (q, y, l)), lp x1] ∈ _ by simp)).1; have of := (rowP_at OE (show rowP lg [lp (some (q, y, l)), lp x1] ∈ _ by simp)).2.1))
            all_goals
              have OS : Own w0 (wo.setCell ⟨lg, 0, none⟩ (.pointer (some ⟨q2, 0, none⟩))) (rowP lg [lp (some (q2, y, l)), lp x1] :: lgb q2 l (.pointer (some ⟨a, 0, none⟩)) :: xlb y l (.pointer (some ⟨k, 0, none⟩)) :: box R (rcells a z lg mg) 66 :: dk (.pointer (some ⟨a, 0, none⟩)) m :: xk (.pointer (some ⟨z, 0, none⟩)) m :: rowX mg [rp (some (q, y, l)), rp x1] :: pr x1 (.pointer (some ⟨d, 0, none⟩)) (.pointer (some ⟨k, 0, none⟩)) :: L) := Own.rowvStore (OE.selK 8 [6, 0, 2, 3, 4, 5, 7]) 0 (.pointer (some ⟨q2, 0, none⟩))
              clear OE o2 ol of OD OVR r0 r2 l0
              go_wp2
              go_meet
              exact ⟨q2, OS⟩
          case rest =>
            obtain ⟨q2, OS⟩ := hcut
            clear OD OVR r0 r2 l0
            have OD := OS.drew
            have r1 : wc.drew.cell? ⟨R, 1, none⟩ = some (.pointer (some ⟨z, 0, none⟩)) := OD.boxCell (show box R (rcells a z lg mg) 66 ∈ _ by simp) 1
            have r3 : wc.drew.cell? ⟨R, 3, none⟩ = some (.slice (some ⟨mg, 0, none⟩) 2 2) := OD.boxCell (show box R (rcells a z lg mg) 66 ∈ _ by simp) 3
            have m1 : wc.drew.cell? ⟨mg, 0, none⟩ = some (.pointer (some ⟨y, 0, none⟩)) := (rowX_at OD (show rowX mg [rp (some (q, y, l)), rp x1] ∈ _ by simp)).1
            have OB : Own w0 wc.drew (box y (l.cells (.pointer (some ⟨k, 0, none⟩))) 95 :: _) := OD.pick 2
            have OB2 : Own w0 wc (box y (l.cells (.pointer (some ⟨k, 0, none⟩))) 95 :: _) := OS.pick 2
            have b0 : wc.drew.cell? ⟨y, 0, none⟩ = some (.pointer (some ⟨k, 0, none⟩)) := OB.cell 0
            have bf : ∀ o, wc.drew.frozen? ⟨y, o, none⟩ = false := fun o => OB.free o
            have OU : Own w0 (wc.setCell ⟨y, 0, none⟩ (.pointer (some ⟨z, 0, none⟩))).drew (xlb y l (.pointer (some ⟨z, 0, none⟩)) :: _) := (OB2.set 0 (.pointer (some ⟨z, 0, none⟩))).drew
            have PK := (OU.selK 8 [2, 0, 3, 4, 5, 1, 6, 7]).pack
            have FIN := Lib.hid (PK.selK 7 [1, 2, 3, 4, 5, 0, 6])
            clear OU OB OB2 OD OS PK
            go_wp2_with fail
            go_region_law (fail)
            all_goals
              clear r1 r3 m1 b0 bf
              go_wp2
              go_roundw
              case rel => exact .inr (.inl ⟨by go_num, (some (q2, y, l)), fun a b e h => by cases h; exact G0.out _ _ _ rfl, FIN.out⟩)
              case measure => simp [intOf]
      · have r3 : wr.cell? ⟨R, 3, none⟩ = some (.slice (some ⟨mg, 0, none⟩) 2 2) := O.boxCell (show box R (rcells a z lg mg) 66 ∈ _ by simp) 3
        obtain ⟨-, -, m0, -⟩ := rowX_at O (show rowX mg [rp y0, rp x1] ∈ _ by simp)
        cases x1
        · have m1 : wr.cell? ⟨mg, 1, none⟩ = some (.pointer none) := m0
          clear m0
          go_wp2
          go_roundw
          case rel => exact .inr (.inr ⟨by go_num, y0, none, gy0, goodP_none _, O⟩)
          case measure => simp [intOf]
        · rename_i qq
          obtain ⟨q, y, l⟩ := qq
          have m1 : wr.cell? ⟨mg, 1, none⟩ = some (.pointer (some ⟨y, 0, none⟩)) := m0
          clear m0
          go_upto_region 8 with fail
          have OV := (O.pick 6).unpack
          try simp only [List.map_cons, List.map_nil, List.getD_cons_zero, List.getD_cons_succ, List.eraseIdx_cons_zero, List.eraseIdx_cons_succ, List.getElem_cons_zero, List.getElem_cons_succ, List.take_succ_cons, List.take_zero, List.drop_succ_cons, List.drop_zero, List.cons_append, List.nil_append, List.append_eq] at OV
          have OD := OV.drew
          clear r3 m1
          have r0 : wr.drew.cell? ⟨R, 0, none⟩ = some (.pointer (some ⟨a, 0, none⟩)) := OD.boxCell (show box R (rcells a z lg mg) 66 ∈ _ by simp) 0
          have r2 : wr.drew.cell? ⟨R, 2, none⟩ = some (.slice (some ⟨lg, 0, none⟩) 2 2) := OD.boxCell (show box R (rcells a z lg mg) 66 ∈ _ by simp) 2
          have l0 : wr.drew.cell? ⟨lg, 1, none⟩ = some (.pointer (some ⟨q, 0, none⟩)) := (rowP_at OD (show rowP lg [lp y0, lp (some (q, y, l))] ∈ _ by simp)).2.2.1
          have OVR := Lib.hid (over_own OD (.pointer (some ⟨a, 0, none⟩)) ⟨_, rfl⟩ ⟨_, rfl⟩)
          clear O OV 
          go_cut [] from 50 to 67 (fun wx => ∃ q2 : Nat, Own w0 wx (rowP lg [lp y0, lp (some (q2, y, l))] :: lgb q2 l (.pointer (some ⟨a, 0, none⟩)) :: xlb y l (.pointer (some ⟨k, 0, none⟩)) :: box R (rcells a z lg mg) 66 :: dk (.pointer (some ⟨a, 0, none⟩)) m :: xk (.pointer (some ⟨z, 0, none⟩)) m :: rowX mg [rp y0, rp (some (q, y, l))] :: pr y0 (.pointer (some ⟨a, 0, none⟩)) (.pointer (some ⟨z, 0, none⟩)) :: L))
          case first =>
            go_region_law
              (first
                | (go_simp; go_at_call 25; (with_reducible refine (OVR.out).mono ?_); rintro e3 wo ⟨q2, rfl, OE⟩; have o2 : wo.cell? ⟨R, 2, none⟩ = some (.slice (some ⟨lg, 0, none⟩) 2 2) := OE.boxCell (show box R (rcells a z lg mg) 66 ∈ _ by simp) 2; have ol : wo.cell? ⟨lg, 1, none⟩ = some (.pointer (some ⟨q, 0, none⟩)) := (rowP_at OE (show rowP lg [lp y0, lp (some (q, y, l))] ∈ _ by simp)).2.2.1; have of := (rowP_at OE (show rowP lg [lp y0, lp (some (q, y, l))] ∈ _ by simp)).2.2.2))
            all_goals
              have OS : Own w0 (wo.setCell ⟨lg, 1, none⟩ (.pointer (some ⟨q2, 0, none⟩))) (rowP lg [lp y0, lp (some (q2, y, l))] :: lgb q2 l (.pointer (some ⟨a, 0, none⟩)) :: xlb y l (.pointer (some ⟨k, 0, none⟩)) :: box R (rcells a z lg mg) 66 :: dk (.pointer (some ⟨a, 0, none⟩)) m :: xk (.pointer (some ⟨z, 0, none⟩)) m :: rowX mg [rp y0, rp (some (q, y, l))] :: pr y0 (.pointer (some ⟨a, 0, none⟩)) (.pointer (some ⟨z, 0, none⟩)) :: L) := Own.rowvStore (OE.selK 8 [6, 0, 2, 3, 4, 5, 7]) 1 (.pointer (some ⟨q2, 0, none⟩))
              clear OE o2 ol of OD OVR r0 r2 l0
              go_wp2
              go_meet
              exact ⟨q2, OS⟩
          case rest =>
            obtain ⟨q2, OS⟩ := hcut
            clear OD OVR r0 r2 l0
            have OD := OS.drew
            have r1 : wc.drew.cell? ⟨R, 1, none⟩ = some (.pointer (some ⟨z, 0, none⟩)) := OD.boxCell (show box R (rcells a z lg mg) 66 ∈ _ by simp) 1
            have r3 : wc.drew.cell? ⟨R, 3, none⟩ = some (.slice (some ⟨mg, 0, none⟩) 2 2) := OD.boxCell (show box R (rcells a z lg mg) 66 ∈ _ by simp) 3
            have m1 : wc.drew.cell? ⟨mg, 1, none⟩ = some (.pointer (some ⟨y, 0, none⟩)) := (rowX_at OD (show rowX mg [rp y0, rp (some (q, y, l))] ∈ _ by simp)).2.2.1
            have OB : Own w0 wc.drew (box y (l.cells (.pointer (some ⟨k, 0, none⟩))) 95 :: _) := OD.pick 2
            have OB2 : Own w0 wc (box y (l.cells (.pointer (some ⟨k, 0, none⟩))) 95 :: _) := OS.pick 2
            have b0 : wc.drew.cell? ⟨y, 0, none⟩ = some (.pointer (some ⟨k, 0, none⟩)) := OB.cell 0
            have bf : ∀ o, wc.drew.frozen? ⟨y, o, none⟩ = false := fun o => OB.free o
            have OU : Own w0 (wc.setCell ⟨y, 0, none⟩ (.pointer (some ⟨z, 0, none⟩))).drew (xlb y l (.pointer (some ⟨z, 0, none⟩)) :: _) := (OB2.set 0 (.pointer (some ⟨z, 0, none⟩))).drew
            have PK := (OU.selK 8 [2, 0, 3, 4, 5, 1, 6, 7]).pack
            have FIN := Lib.hid (PK.selK 7 [1, 2, 3, 4, 5, 6, 0])
            clear OU OB OB2 OD OS PK
            go_wp2_with fail
            go_region_law (fail)
            all_goals
              clear r1 r3 m1 b0 bf
              go_wp2
              go_roundw
              case rel => exact .inr (.inr ⟨by go_num, y0, (some (q2, y, l)), gy0, fun a b e h => by cases h; exact G1.out _ _ _ rfl, FIN.out⟩)
              case measure => simp [intOf]
      · have FIN := Lib.hid (O.selK 7 [1, 2, 3, 4, 0, 5, 6])
        clear O
        go_wp2
        go_ret
        exact ⟨rfl, lg, mg, a, z, m, y0, y1, gy0, gy1, FH.out, NN.out, FIN.out⟩
end Go.Proofs.YtnlppcjfpmnahaaGreatDoor
