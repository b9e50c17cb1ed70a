/- mailroomlaw12.does: a Begin; printed by wip/lpb.py. -/
import Derived.Test.YtnlppcjfpmnahaaGreatDoorLpA
namespace Go.Proofs.YtnlppcjfpmnahaaGreatDoor
set_option linter.all false
open Go.RowKit

theorem RoomAt.put {w0 w' : World} {L : List Piece} {R n c lg mg d k : Nat} {m' : Dk} {x0 x1 : Option (Nat × Nat × Lg)} (g0 : goodP x0 n) (g1 : goodP x1 n) (j : Nat) (hj : j ≤ 1) {a : Option (Nat × Nat × Lg)} (ga : goodP a n) (F : m'.Fit c) (N : m'.n = n)
    (O : Own w0 w' (rowX mg ([rp x0, rp x1].set j (rp a)) :: rowP lg ([lp x0, lp x1].set j (lp a)) :: box R (rcells d k lg mg) 66 :: pr a (.pointer (some ⟨d, 0, none⟩)) (.pointer (some ⟨k, 0, none⟩)) :: dk (.pointer (some ⟨d, 0, none⟩)) m' :: xk (.pointer (some ⟨k, 0, none⟩)) m' :: pr x0 (.pointer (some ⟨d, 0, none⟩)) (.pointer (some ⟨k, 0, none⟩)) :: pr x1 (.pointer (some ⟨d, 0, none⟩)) (.pointer (some ⟨k, 0, none⟩)) :: L)) : RoomAt w0 w' L R n c := by
  have : j = 0 ∨ j = 1 := by omega
  rcases this with rfl | rfl
  · exact ⟨lg, mg, d, k, m', a, x1, ga, g1, F, N, O.selK 8 [4, 5, 1, 0, 2, 3, 7]⟩
  · exact ⟨lg, mg, d, k, m', x0, a, g0, ga, F, N, O.selK 8 [4, 5, 1, 0, 2, 6, 3]⟩
set_option maxRecDepth 100000 in
set_option maxHeartbeats 8000000 in
theorem does_begin {w0 w : World} {L : List Piece} {R n c : Nat} (H : RoomAt w0 w L R n c) (hn : n ≤ 40) (hc : c ≤ 8000) (s : St) (sw : s.Wf) (sl : s.s.length < 3000) (h0 : s.what = 0) :
    Calls Tryz.prog 30 #[.pointer (some ⟨R, 0, none⟩), .agg #[.int .u8 s.what, .int .i64 s.half, .int .i64 s.age, .string ⟨s.s.toArray⟩, .int .i64 s.many, .slice s.ka s.keep.length s.kc]] w fun e w' => e = .returned (.bool true) ∧ RoomAt w0 w' L R n (c + 20) := by
  obtain ⟨lg, mg, d, k, m, x0, x1, g0, g1, F, N, OO⟩ := H
  have G0 := Lib.hid g0
  have G1 := Lib.hid g1
  have FH := Lib.hid F
  have SA := wf64 sw.age
  have SWm := Lib.hid sw.many
  have H0 := Lib.hid h0
  clear h0
  unfold I64 at SA
  obtain ⟨hf, hhf, hmod⟩ := mod2 s.half
  have O1 := OO.newBox #[.int .u8 s.what, .int .i64 s.half, .int .i64 s.age, .string ⟨s.s.toArray⟩, .int .i64 s.many, .slice s.ka s.keep.length s.kc] 69
  obtain ⟨T, hT⟩ : ∃ b, b = w.heap.size := ⟨_, rfl⟩
  rw [← hT] at O1
  have OW := O1.selK 8 [1, 2, 0, 3, 4, 5, 6, 7]
  try simp only [List.map_cons, List.map_nil, List.getD_cons_zero, List.getD_cons_succ, List.eraseIdx_cons_zero, List.eraseIdx_cons_succ, List.getElem_cons_zero, List.getElem_cons_succ, List.take_succ_cons, List.take_zero, List.drop_succ_cons, List.drop_zero, List.cons_append, List.nil_append, List.append_eq] at OW
  clear OO O1 g0 g1 F sw
  have CK : Hid (∀ w' (LL : List Piece), Own w0 w' LL → box T #[.int .u8 s.what, .int .i64 s.half, .int .i64 s.age, .string ⟨s.s.toArray⟩, .int .i64 s.many, .slice s.ka s.keep.length s.kc] 69 ∈ LL → box R (rcells d k lg mg) 66 ∈ LL → Hid (w'.cell? ⟨R, 0, none⟩ = some (.pointer (some ⟨d, 0, none⟩)) ∧ w'.cell? ⟨R, 1, none⟩ = some (.pointer (some ⟨k, 0, none⟩)) ∧ w'.cell? ⟨T, 0, none⟩ = some (.int .u8 s.what) ∧ w'.cell? ⟨T, 1, none⟩ = some (.int .i64 s.half) ∧ w'.cell? ⟨T, 2, none⟩ = some (.int .i64 s.age) ∧ w'.cell? ⟨T, 3, none⟩ = some (.string ⟨s.s.toArray⟩) ∧ w'.cell? ⟨T, 4, none⟩ = some (.int .i64 s.many) ∧ w'.cell? ⟨T, 5, none⟩ = some (.slice s.ka s.keep.length s.kc))) := fun w' LL h a b =>
    ⟨h.boxCell b 0, h.boxCell b 1, h.boxCell a 0, h.boxCell a 1, h.boxCell a 2, h.boxCell a 3, h.boxCell a 4, h.boxCell a 5⟩
  have CK2 : Hid (∀ w' (LL : List Piece), Own w0 w' LL → box R (rcells d k lg mg) 66 ∈ LL → Hid (w'.cell? ⟨R, 2, none⟩ = some (.slice (some ⟨lg, 0, none⟩) 2 2) ∧ w'.cell? ⟨R, 3, none⟩ = some (.slice (some ⟨mg, 0, none⟩) 2 2))) := fun w' LL h b => ⟨h.boxCell b 2, h.boxCell b 3⟩
  have TX := Lib.hid (fun w' (LL : List Piece) (h : Own w0 w' LL) => text12_own h s (by omega) SWm.out)
  have TL : Hid ((textL s).length ≤ 4500) := by have := textL_len s; unfold Hid; omega
  generalize textL s = tx at TX TL
  have BG := Lib.hid (fun hv av w' (LL : List Piece) (h : Own w0 w' (dk (.pointer (some ⟨d, 0, none⟩)) m :: LL)) => begin_own h FH.out (by omega) hv av tx (by have := TL.out; omega))
  have XB := Lib.hid (fun hv av w' (LL : List Piece) (h : Own w0 w' (xk (.pointer (some ⟨k, 0, none⟩)) m :: LL)) => xbegin_own h FH.out (by omega) hv av tx (by have := TL.out; omega))
  have LF := Lib.hid (fun hv av => begin_left FH.out (by omega) hv av tx)
  have TP := Lib.hid (fun w' (LL : List Piece) (h : Own w0 w' (xk (.pointer (some ⟨k, 0, none⟩)) m :: LL)) => xtop_own h (by omega))
  have TV := topV_le (m := m)
  generalize m.topV = tv at TP TV
  obtain ⟨tv, te⟩ := tv
  simp only at TP TV
  go_enter Tryz.func30, Tryz.ntmps30
  go_upto_region 1 with fail
  rw [← hT]
  clear hT
  generalize (w.alloc (.cells #[.int .u8 s.what, .int .i64 s.half, .int .i64 s.age, .string ⟨s.s.toArray⟩, .int .i64 s.many, .slice s.ka s.keep.length s.kc] 69)) = W at OW ⊢
  obtain ⟨-, r1, c0, c1, -⟩ := (CK.out _ _ OW (by simp) (by simp)).out
  rw [H0.out] at c0
  go_wp2_with fail
  refine (TP.out _ _ (OW.pick 1)).mono ?_
  clear TP OW c0 c1 r1
  rintro _ w1 ⟨rfl, O⟩
  have OW := O.pick 1
  try simp only [List.map_cons, List.map_nil, List.getD_cons_zero, List.getD_cons_succ, List.eraseIdx_cons_zero, List.eraseIdx_cons_succ, List.getElem_cons_zero, List.getElem_cons_succ, List.take_succ_cons, List.take_zero, List.drop_succ_cons, List.drop_zero, List.cons_append, List.nil_append, List.append_eq] at OW
  clear O
  obtain ⟨-, -, -, c1, c2, -⟩ := (CK.out _ _ OW (by simp) (by simp)).out
  go_wp2_with fail
  go_quiet (fail)
  by_cases ha : 0 < s.age
  · by_cases hb : s.age < 1000
    · have s1 : IntKind.i64.wrap (tv + s.age) = tv + s.age := IntWalk.i64_in _ (by omega)
      go_upto_region 15 with fail
      clear c1 c2
      generalize hW : w1.drewN _ = W2
      have OX : Own w0 W2 _ := hW ▸ OW.drewN _
      clear OW hW
      try rw [hmod]
      have BG := Lib.hid (BG.out (hf : Int) (tv + s.age))
      have XB := Lib.hid (XB.out (hf : Int) (tv + s.age))
      have LF := Lib.hid (LF.out (hf : Int) (tv + s.age))
      generalize hR : beginV m (hf : Int) (tv + s.age) tx = RR at BG XB LF
      obtain ⟨lo, mm, er⟩ := RR
      have ER := Lib.hid (begin_er hR)
      have HF := Lib.hid (fun l (e : lo = some l) => begin_half (by rw [← e]; exact hR))
      clear hR
      unfold BeginPost at BG
      unfold XBeginPost at XB
      have OD := OX.drew
      have k0 := CK.out _ _ OX (by simp) (by simp)
      have k1 := CK.out _ _ OD (by simp) (by simp)
      clear OX
      cases lo
      · have her : er ≠ 0 := ER.out.2 rfl
        simp only at BG XB LF
        go_region_held3 (fun w' => w'.cell? ⟨R, 0, none⟩ = some (.pointer (some ⟨d, 0, none⟩)) ∧ w'.cell? ⟨R, 1, none⟩ = some (.pointer (some ⟨k, 0, none⟩)) ∧ w'.cell? ⟨T, 0, none⟩ = some (.int .u8 s.what) ∧ w'.cell? ⟨T, 1, none⟩ = some (.int .i64 s.half) ∧ w'.cell? ⟨T, 2, none⟩ = some (.int .i64 s.age) ∧ w'.cell? ⟨T, 3, none⟩ = some (.string ⟨s.s.toArray⟩) ∧ w'.cell? ⟨T, 4, none⟩ = some (.int .i64 s.many) ∧ w'.cell? ⟨T, 5, none⟩ = some (.slice s.ka s.keep.length s.kc))
          (first | with_reducible exact k0.out | with_reducible exact k1.out)
          (first
            | (go_at_call 33; (with_reducible refine (TX.out _ _ OD).mono ?_); rintro e1 ws ⟨rfl, OD⟩; have k1 := CK.out _ _ OD (by simp) (by simp))
            | (go_at_call 16; (with_reducible refine (BG.out _ _ OD).mono ?_); rintro e2 wb ⟨rfl, OD⟩; have k1 := CK.out _ _ OD (by simp) (by simp)))
        have OX := OD.pick 1
        try simp only [List.map_cons, List.map_nil, List.getD_cons_zero, List.getD_cons_succ, List.eraseIdx_cons_zero, List.eraseIdx_cons_succ, List.getElem_cons_zero, List.getElem_cons_succ, List.take_succ_cons, List.take_zero, List.drop_succ_cons, List.drop_zero, List.cons_append, List.nil_append, List.append_eq] at OX
        clear OD k0 k1 BG
        have OD := OX.drew
        have k0 := CK.out _ _ OX (by simp) (by simp)
        have k1 := CK.out _ _ OD (by simp) (by simp)
        clear OX
        go_wp2_with fail
        go_region_held3 (fun w' => w'.cell? ⟨R, 0, none⟩ = some (.pointer (some ⟨d, 0, none⟩)) ∧ w'.cell? ⟨R, 1, none⟩ = some (.pointer (some ⟨k, 0, none⟩)) ∧ w'.cell? ⟨T, 0, none⟩ = some (.int .u8 s.what) ∧ w'.cell? ⟨T, 1, none⟩ = some (.int .i64 s.half) ∧ w'.cell? ⟨T, 2, none⟩ = some (.int .i64 s.age) ∧ w'.cell? ⟨T, 3, none⟩ = some (.string ⟨s.s.toArray⟩) ∧ w'.cell? ⟨T, 4, none⟩ = some (.int .i64 s.many) ∧ w'.cell? ⟨T, 5, none⟩ = some (.slice s.ka s.keep.length s.kc))
          (first | with_reducible exact k0.out | with_reducible exact k1.out)
          (first
            | (go_at_call 33; (with_reducible refine (TX.out _ _ OD).mono ?_); rintro e1 ws ⟨rfl, OD⟩; have k1 := CK.out _ _ OD (by simp) (by simp))
            | (go_at_call 46; (with_reducible refine (XB.out _ _ OD).mono ?_); rintro e2 wb ⟨rfl, OD⟩; have k1 := CK.out _ _ OD (by simp) (by simp)))
        have FIN := OD.selK 8 [1, 0, 3, 4, 5, 6, 7]
        have e1 : (er == 0) = false := by simpa using her
        have e2 : (er != 0) = true := by rw [bne, e1]; rfl
        have FIN := Lib.hid FIN
        clear OD k0 k1 XB her
        go_wp2
        go_ret
        exact ⟨rfl, lg, mg, d, k, mm, x0, x1, G0.out, G1.out, LF.out.1, LF.out.2.1.trans N, FIN.out⟩
      · rename_i lr
        obtain rfl : er = 0 := ER.out.1 lr rfl
        obtain ⟨q1, q2⟩ := HF.out lr rfl
        simp only at BG XB LF
        go_region_held3 (fun w' => w'.cell? ⟨R, 0, none⟩ = some (.pointer (some ⟨d, 0, none⟩)) ∧ w'.cell? ⟨R, 1, none⟩ = some (.pointer (some ⟨k, 0, none⟩)) ∧ w'.cell? ⟨T, 0, none⟩ = some (.int .u8 s.what) ∧ w'.cell? ⟨T, 1, none⟩ = some (.int .i64 s.half) ∧ w'.cell? ⟨T, 2, none⟩ = some (.int .i64 s.age) ∧ w'.cell? ⟨T, 3, none⟩ = some (.string ⟨s.s.toArray⟩) ∧ w'.cell? ⟨T, 4, none⟩ = some (.int .i64 s.many) ∧ w'.cell? ⟨T, 5, none⟩ = some (.slice s.ka s.keep.length s.kc))
          (first | with_reducible exact k0.out | with_reducible exact k1.out)
          (first
            | (go_at_call 33; (with_reducible refine (TX.out _ _ OD).mono ?_); rintro e1 ws ⟨rfl, OD⟩; have k1 := CK.out _ _ OD (by simp) (by simp))
            | (go_at_call 16; (with_reducible refine (BG.out _ _ OD).mono ?_); rintro e2 wb ⟨q, rfl, OD⟩; have k1 := CK.out _ _ OD (by simp) (by simp)))
        have OX := OD.pick 2
        try simp only [List.map_cons, List.map_nil, List.getD_cons_zero, List.getD_cons_succ, List.eraseIdx_cons_zero, List.eraseIdx_cons_succ, List.getElem_cons_zero, List.getElem_cons_succ, List.take_succ_cons, List.take_zero, List.drop_succ_cons, List.drop_zero, List.cons_append, List.nil_append, List.append_eq] at OX
        clear OD k0 k1 BG
        have OD := OX.drew
        have k0 := CK.out _ _ OX (by simp) (by simp)
        have k1 := CK.out _ _ OD (by simp) (by simp)
        clear OX
        go_wp2_with fail
        go_region_held3 (fun w' => w'.cell? ⟨R, 0, none⟩ = some (.pointer (some ⟨d, 0, none⟩)) ∧ w'.cell? ⟨R, 1, none⟩ = some (.pointer (some ⟨k, 0, none⟩)) ∧ w'.cell? ⟨T, 0, none⟩ = some (.int .u8 s.what) ∧ w'.cell? ⟨T, 1, none⟩ = some (.int .i64 s.half) ∧ w'.cell? ⟨T, 2, none⟩ = some (.int .i64 s.age) ∧ w'.cell? ⟨T, 3, none⟩ = some (.string ⟨s.s.toArray⟩) ∧ w'.cell? ⟨T, 4, none⟩ = some (.int .i64 s.many) ∧ w'.cell? ⟨T, 5, none⟩ = some (.slice s.ka s.keep.length s.kc))
          (first | with_reducible exact k0.out | with_reducible exact k1.out)
          (first
            | (go_at_call 33; (with_reducible refine (TX.out _ _ OD).mono ?_); rintro e1 ws ⟨rfl, OD⟩; have k1 := CK.out _ _ OD (by simp) (by simp))
            | (go_at_call 46; (with_reducible refine (XB.out _ _ OD).mono ?_); rintro e2 wb ⟨y, rfl, OD⟩; have k1 := CK.out _ _ OD (by simp) (by simp)))
        have OX := OD.selK 10 [5, 6, 7, 2, 0, 3, 1, 8, 9]
        try simp only [List.map_cons, List.map_nil, List.getD_cons_zero, List.getD_cons_succ, List.eraseIdx_cons_zero, List.eraseIdx_cons_succ, List.getElem_cons_zero, List.getElem_cons_succ, List.take_succ_cons, List.take_zero, List.drop_succ_cons, List.drop_zero, List.cons_append, List.nil_append, List.append_eq] at OX
        clear OD k0 k1 XB
        obtain ⟨j, hj, hj1⟩ : ∃ j : Nat, (hf : Int) = (j : Int) ∧ j ≤ 1 := ⟨((hf : Int)).toNat, by omega, by omega⟩
        go_upto_region 20 with fail
        rw [hj]
        have OD := OX.drew
        have ROW : ∀ (w' : World) (LL : List Piece), Own w0 w' (rowP lg [lp x0, lp x1] :: LL) → ∃ v, w'.cell? ⟨lg, j, none⟩ = some v ∧ w'.frozen? ⟨lg, j, none⟩ = false := fun w' LL h => by
          obtain ⟨-, g2, e, c, f⟩ := Own.rowvAt h j (by simp; omega)
          simp only [Option.some.injEq, Addr.mk.injEq, and_true] at e
          obtain rfl := e
          exact ⟨_, c, f⟩
        have ROX : ∀ (w' : World) (LL : List Piece), Own w0 w' (rowX mg [rp x0, rp x1] :: LL) → ∃ v, w'.cell? ⟨mg, j, none⟩ = some v ∧ w'.frozen? ⟨mg, j, none⟩ = false := fun w' LL h => by
          obtain ⟨-, g2, e, c, f⟩ := Own.rowvAt h j (by simp; omega)
          simp only [Option.some.injEq, Addr.mk.injEq, and_true] at e
          obtain rfl := e
          exact ⟨_, c, f⟩
        have OE : Own w0 (wb.setCell ⟨lg, j, none⟩ (.pointer (some ⟨q, 0, none⟩))).drew (rowP lg ([lp x0, lp x1].set j (lp (some (q, y, lr)))) :: _) := (Own.rowvStore OX j (lp (some (q, y, lr)))).drew
        have OE0 : Own w0 (wb.setCell ⟨lg, j, none⟩ (.pointer (some ⟨q, 0, none⟩))) (rowP lg ([lp x0, lp x1].set j (lp (some (q, y, lr)))) :: _) := Own.rowvStore OX j (lp (some (q, y, lr)))
        have k0 := CK2.out _ _ OX (by simp)
        have k1 := CK2.out _ _ OD (by simp)
        have k2 := CK2.out _ _ OE (by simp)
        obtain ⟨v1, cx, fx⟩ := ROW _ _ OD
        obtain ⟨v2, cy, fy⟩ := ROX _ _ (OE.pick 1)
        have OF : Own w0 ((wb.setCell ⟨lg, j, none⟩ (.pointer (some ⟨q, 0, none⟩))).setCell ⟨mg, j, none⟩ (.pointer (some ⟨y, 0, none⟩))).drew (rowX mg ([rp x0, rp x1].set j (rp (some (q, y, lr)))) :: _) := (Own.rowvStore (OE0.pick 1) j (rp (some (q, y, lr)))).drew
        have k3 := CK2.out _ _ OF (by simp)
        have i2 : (j : Int) < 2 := by omega
        have PK := (OF.selK 7 [3, 4, 0, 1, 2, 5, 6]).pack
        have FIN := Lib.hid (RoomAt.put G0.out G1.out j hj1 (by have h3 := LF.out.2.2 q y; rw [N] at h3; exact h3) LF.out.1 (LF.out.2.1.trans N) (PK.selK 6 [1, 2, 3, 0, 4, 5]))
        clear OE OF OD OX OE0 PK ROW ROX
        go_region_held3 (fun w' => w'.cell? ⟨R, 2, none⟩ = some (.slice (some ⟨lg, 0, none⟩) 2 2) ∧ w'.cell? ⟨R, 3, none⟩ = some (.slice (some ⟨mg, 0, none⟩) 2 2))
          (first | with_reducible exact k0.out | with_reducible exact k1.out | with_reducible exact k2.out | with_reducible exact k3.out)
          (fail)
        trace_state
        go_wp2
        go_ret
        exact ⟨rfl, FIN.out⟩
    · skip
      go_upto_region 15 with fail
      clear c1 c2
      generalize hW : w1.drewN _ = W2
      have OX : Own w0 W2 _ := hW ▸ OW.drewN _
      clear OW hW
      have BG := Lib.hid (BG.out s.half s.age)
      have XB := Lib.hid (XB.out s.half s.age)
      have LF := Lib.hid (LF.out s.half s.age)
      generalize hR : beginV m s.half s.age tx = RR at BG XB LF
      obtain ⟨lo, mm, er⟩ := RR
      have ER := Lib.hid (begin_er hR)
      have HF := Lib.hid (fun l (e : lo = some l) => begin_half (by rw [← e]; exact hR))
      clear hR
      unfold BeginPost at BG
      unfold XBeginPost at XB
      have OD := OX.drew
      have k0 := CK.out _ _ OX (by simp) (by simp)
      have k1 := CK.out _ _ OD (by simp) (by simp)
      clear OX
      cases lo
      · have her : er ≠ 0 := ER.out.2 rfl
        simp only at BG XB LF
        go_region_held3 (fun w' => w'.cell? ⟨R, 0, none⟩ = some (.pointer (some ⟨d, 0, none⟩)) ∧ w'.cell? ⟨R, 1, none⟩ = some (.pointer (some ⟨k, 0, none⟩)) ∧ w'.cell? ⟨T, 0, none⟩ = some (.int .u8 s.what) ∧ w'.cell? ⟨T, 1, none⟩ = some (.int .i64 s.half) ∧ w'.cell? ⟨T, 2, none⟩ = some (.int .i64 s.age) ∧ w'.cell? ⟨T, 3, none⟩ = some (.string ⟨s.s.toArray⟩) ∧ w'.cell? ⟨T, 4, none⟩ = some (.int .i64 s.many) ∧ w'.cell? ⟨T, 5, none⟩ = some (.slice s.ka s.keep.length s.kc))
          (first | with_reducible exact k0.out | with_reducible exact k1.out)
          (first
            | (go_at_call 33; (with_reducible refine (TX.out _ _ OD).mono ?_); rintro e1 ws ⟨rfl, OD⟩; have k1 := CK.out _ _ OD (by simp) (by simp))
            | (go_at_call 16; (with_reducible refine (BG.out _ _ OD).mono ?_); rintro e2 wb ⟨rfl, OD⟩; have k1 := CK.out _ _ OD (by simp) (by simp)))
        have OX := OD.pick 1
        try simp only [List.map_cons, List.map_nil, List.getD_cons_zero, List.getD_cons_succ, List.eraseIdx_cons_zero, List.eraseIdx_cons_succ, List.getElem_cons_zero, List.getElem_cons_succ, List.take_succ_cons, List.take_zero, List.drop_succ_cons, List.drop_zero, List.cons_append, List.nil_append, List.append_eq] at OX
        clear OD k0 k1 BG
        have OD := OX.drew
        have k0 := CK.out _ _ OX (by simp) (by simp)
        have k1 := CK.out _ _ OD (by simp) (by simp)
        clear OX
        go_wp2_with fail
        go_region_held3 (fun w' => w'.cell? ⟨R, 0, none⟩ = some (.pointer (some ⟨d, 0, none⟩)) ∧ w'.cell? ⟨R, 1, none⟩ = some (.pointer (some ⟨k, 0, none⟩)) ∧ w'.cell? ⟨T, 0, none⟩ = some (.int .u8 s.what) ∧ w'.cell? ⟨T, 1, none⟩ = some (.int .i64 s.half) ∧ w'.cell? ⟨T, 2, none⟩ = some (.int .i64 s.age) ∧ w'.cell? ⟨T, 3, none⟩ = some (.string ⟨s.s.toArray⟩) ∧ w'.cell? ⟨T, 4, none⟩ = some (.int .i64 s.many) ∧ w'.cell? ⟨T, 5, none⟩ = some (.slice s.ka s.keep.length s.kc))
          (first | with_reducible exact k0.out | with_reducible exact k1.out)
          (first
            | (go_at_call 33; (with_reducible refine (TX.out _ _ OD).mono ?_); rintro e1 ws ⟨rfl, OD⟩; have k1 := CK.out _ _ OD (by simp) (by simp))
            | (go_at_call 46; (with_reducible refine (XB.out _ _ OD).mono ?_); rintro e2 wb ⟨rfl, OD⟩; have k1 := CK.out _ _ OD (by simp) (by simp)))
        have FIN := OD.selK 8 [1, 0, 3, 4, 5, 6, 7]
        have e1 : (er == 0) = false := by simpa using her
        have e2 : (er != 0) = true := by rw [bne, e1]; rfl
        have FIN := Lib.hid FIN
        clear OD k0 k1 XB her
        go_wp2
        go_ret
        exact ⟨rfl, lg, mg, d, k, mm, x0, x1, G0.out, G1.out, LF.out.1, LF.out.2.1.trans N, FIN.out⟩
      · rename_i lr
        obtain rfl : er = 0 := ER.out.1 lr rfl
        obtain ⟨q1, q2⟩ := HF.out lr rfl
        simp only at BG XB LF
        go_region_held3 (fun w' => w'.cell? ⟨R, 0, none⟩ = some (.pointer (some ⟨d, 0, none⟩)) ∧ w'.cell? ⟨R, 1, none⟩ = some (.pointer (some ⟨k, 0, none⟩)) ∧ w'.cell? ⟨T, 0, none⟩ = some (.int .u8 s.what) ∧ w'.cell? ⟨T, 1, none⟩ = some (.int .i64 s.half) ∧ w'.cell? ⟨T, 2, none⟩ = some (.int .i64 s.age) ∧ w'.cell? ⟨T, 3, none⟩ = some (.string ⟨s.s.toArray⟩) ∧ w'.cell? ⟨T, 4, none⟩ = some (.int .i64 s.many) ∧ w'.cell? ⟨T, 5, none⟩ = some (.slice s.ka s.keep.length s.kc))
          (first | with_reducible exact k0.out | with_reducible exact k1.out)
          (first
            | (go_at_call 33; (with_reducible refine (TX.out _ _ OD).mono ?_); rintro e1 ws ⟨rfl, OD⟩; have k1 := CK.out _ _ OD (by simp) (by simp))
            | (go_at_call 16; (with_reducible refine (BG.out _ _ OD).mono ?_); rintro e2 wb ⟨q, rfl, OD⟩; have k1 := CK.out _ _ OD (by simp) (by simp)))
        have OX := OD.pick 2
        try simp only [List.map_cons, List.map_nil, List.getD_cons_zero, List.getD_cons_succ, List.eraseIdx_cons_zero, List.eraseIdx_cons_succ, List.getElem_cons_zero, List.getElem_cons_succ, List.take_succ_cons, List.take_zero, List.drop_succ_cons, List.drop_zero, List.cons_append, List.nil_append, List.append_eq] at OX
        clear OD k0 k1 BG
        have OD := OX.drew
        have k0 := CK.out _ _ OX (by simp) (by simp)
        have k1 := CK.out _ _ OD (by simp) (by simp)
        clear OX
        go_wp2_with fail
        go_region_held3 (fun w' => w'.cell? ⟨R, 0, none⟩ = some (.pointer (some ⟨d, 0, none⟩)) ∧ w'.cell? ⟨R, 1, none⟩ = some (.pointer (some ⟨k, 0, none⟩)) ∧ w'.cell? ⟨T, 0, none⟩ = some (.int .u8 s.what) ∧ w'.cell? ⟨T, 1, none⟩ = some (.int .i64 s.half) ∧ w'.cell? ⟨T, 2, none⟩ = some (.int .i64 s.age) ∧ w'.cell? ⟨T, 3, none⟩ = some (.string ⟨s.s.toArray⟩) ∧ w'.cell? ⟨T, 4, none⟩ = some (.int .i64 s.many) ∧ w'.cell? ⟨T, 5, none⟩ = some (.slice s.ka s.keep.length s.kc))
          (first | with_reducible exact k0.out | with_reducible exact k1.out)
          (first
            | (go_at_call 33; (with_reducible refine (TX.out _ _ OD).mono ?_); rintro e1 ws ⟨rfl, OD⟩; have k1 := CK.out _ _ OD (by simp) (by simp))
            | (go_at_call 46; (with_reducible refine (XB.out _ _ OD).mono ?_); rintro e2 wb ⟨y, rfl, OD⟩; have k1 := CK.out _ _ OD (by simp) (by simp)))
        have OX := OD.selK 10 [5, 6, 7, 2, 0, 3, 1, 8, 9]
        try simp only [List.map_cons, List.map_nil, List.getD_cons_zero, List.getD_cons_succ, List.eraseIdx_cons_zero, List.eraseIdx_cons_succ, List.getElem_cons_zero, List.getElem_cons_succ, List.take_succ_cons, List.take_zero, List.drop_succ_cons, List.drop_zero, List.cons_append, List.nil_append, List.append_eq] at OX
        clear OD k0 k1 XB
        obtain ⟨j, hj, hj1⟩ : ∃ j : Nat, s.half = (j : Int) ∧ j ≤ 1 := ⟨(s.half).toNat, by omega, by omega⟩
        go_upto_region 20 with fail
        rw [hj]
        have OD := OX.drew
        have ROW : ∀ (w' : World) (LL : List Piece), Own w0 w' (rowP lg [lp x0, lp x1] :: LL) → ∃ v, w'.cell? ⟨lg, j, none⟩ = some v ∧ w'.frozen? ⟨lg, j, none⟩ = false := fun w' LL h => by
          obtain ⟨-, g2, e, c, f⟩ := Own.rowvAt h j (by simp; omega)
          simp only [Option.some.injEq, Addr.mk.injEq, and_true] at e
          obtain rfl := e
          exact ⟨_, c, f⟩
        have ROX : ∀ (w' : World) (LL : List Piece), Own w0 w' (rowX mg [rp x0, rp x1] :: LL) → ∃ v, w'.cell? ⟨mg, j, none⟩ = some v ∧ w'.frozen? ⟨mg, j, none⟩ = false := fun w' LL h => by
          obtain ⟨-, g2, e, c, f⟩ := Own.rowvAt h j (by simp; omega)
          simp only [Option.some.injEq, Addr.mk.injEq, and_true] at e
          obtain rfl := e
          exact ⟨_, c, f⟩
        have OE : Own w0 (wb.setCell ⟨lg, j, none⟩ (.pointer (some ⟨q, 0, none⟩))).drew (rowP lg ([lp x0, lp x1].set j (lp (some (q, y, lr)))) :: _) := (Own.rowvStore OX j (lp (some (q, y, lr)))).drew
        have OE0 : Own w0 (wb.setCell ⟨lg, j, none⟩ (.pointer (some ⟨q, 0, none⟩))) (rowP lg ([lp x0, lp x1].set j (lp (some (q, y, lr)))) :: _) := Own.rowvStore OX j (lp (some (q, y, lr)))
        have k0 := CK2.out _ _ OX (by simp)
        have k1 := CK2.out _ _ OD (by simp)
        have k2 := CK2.out _ _ OE (by simp)
        obtain ⟨v1, cx, fx⟩ := ROW _ _ OD
        obtain ⟨v2, cy, fy⟩ := ROX _ _ (OE.pick 1)
        have OF : Own w0 ((wb.setCell ⟨lg, j, none⟩ (.pointer (some ⟨q, 0, none⟩))).setCell ⟨mg, j, none⟩ (.pointer (some ⟨y, 0, none⟩))).drew (rowX mg ([rp x0, rp x1].set j (rp (some (q, y, lr)))) :: _) := (Own.rowvStore (OE0.pick 1) j (rp (some (q, y, lr)))).drew
        have k3 := CK2.out _ _ OF (by simp)
        have i2 : (j : Int) < 2 := by omega
        have PK := (OF.selK 7 [3, 4, 0, 1, 2, 5, 6]).pack
        have FIN := Lib.hid (RoomAt.put G0.out G1.out j hj1 (by have h3 := LF.out.2.2 q y; rw [N] at h3; exact h3) LF.out.1 (LF.out.2.1.trans N) (PK.selK 6 [1, 2, 3, 0, 4, 5]))
        clear OE OF OD OX OE0 PK ROW ROX
        go_region_held3 (fun w' => w'.cell? ⟨R, 2, none⟩ = some (.slice (some ⟨lg, 0, none⟩) 2 2) ∧ w'.cell? ⟨R, 3, none⟩ = some (.slice (some ⟨mg, 0, none⟩) 2 2))
          (first | with_reducible exact k0.out | with_reducible exact k1.out | with_reducible exact k2.out | with_reducible exact k3.out)
          (fail)
        trace_state
        go_wp2
        go_ret
        exact ⟨rfl, FIN.out⟩
  · skip
    go_upto_region 15 with fail
    clear c1 c2
    generalize hW : w1.drewN _ = W2
    have OX : Own w0 W2 _ := hW ▸ OW.drewN _
    clear OW hW
    have BG := Lib.hid (BG.out s.half s.age)
    have XB := Lib.hid (XB.out s.half s.age)
    have LF := Lib.hid (LF.out s.half s.age)
    generalize hR : beginV m s.half s.age tx = RR at BG XB LF
    obtain ⟨lo, mm, er⟩ := RR
    have ER := Lib.hid (begin_er hR)
    have HF := Lib.hid (fun l (e : lo = some l) => begin_half (by rw [← e]; exact hR))
    clear hR
    unfold BeginPost at BG
    unfold XBeginPost at XB
    have OD := OX.drew
    have k0 := CK.out _ _ OX (by simp) (by simp)
    have k1 := CK.out _ _ OD (by simp) (by simp)
    clear OX
    cases lo
    · have her : er ≠ 0 := ER.out.2 rfl
      simp only at BG XB LF
      go_region_held3 (fun w' => w'.cell? ⟨R, 0, none⟩ = some (.pointer (some ⟨d, 0, none⟩)) ∧ w'.cell? ⟨R, 1, none⟩ = some (.pointer (some ⟨k, 0, none⟩)) ∧ w'.cell? ⟨T, 0, none⟩ = some (.int .u8 s.what) ∧ w'.cell? ⟨T, 1, none⟩ = some (.int .i64 s.half) ∧ w'.cell? ⟨T, 2, none⟩ = some (.int .i64 s.age) ∧ w'.cell? ⟨T, 3, none⟩ = some (.string ⟨s.s.toArray⟩) ∧ w'.cell? ⟨T, 4, none⟩ = some (.int .i64 s.many) ∧ w'.cell? ⟨T, 5, none⟩ = some (.slice s.ka s.keep.length s.kc))
        (first | with_reducible exact k0.out | with_reducible exact k1.out)
        (first
          | (go_at_call 33; (with_reducible refine (TX.out _ _ OD).mono ?_); rintro e1 ws ⟨rfl, OD⟩; have k1 := CK.out _ _ OD (by simp) (by simp))
          | (go_at_call 16; (with_reducible refine (BG.out _ _ OD).mono ?_); rintro e2 wb ⟨rfl, OD⟩; have k1 := CK.out _ _ OD (by simp) (by simp)))
      have OX := OD.pick 1
      try simp only [List.map_cons, List.map_nil, List.getD_cons_zero, List.getD_cons_succ, List.eraseIdx_cons_zero, List.eraseIdx_cons_succ, List.getElem_cons_zero, List.getElem_cons_succ, List.take_succ_cons, List.take_zero, List.drop_succ_cons, List.drop_zero, List.cons_append, List.nil_append, List.append_eq] at OX
      clear OD k0 k1 BG
      have OD := OX.drew
      have k0 := CK.out _ _ OX (by simp) (by simp)
      have k1 := CK.out _ _ OD (by simp) (by simp)
      clear OX
      go_wp2_with fail
      go_region_held3 (fun w' => w'.cell? ⟨R, 0, none⟩ = some (.pointer (some ⟨d, 0, none⟩)) ∧ w'.cell? ⟨R, 1, none⟩ = some (.pointer (some ⟨k, 0, none⟩)) ∧ w'.cell? ⟨T, 0, none⟩ = some (.int .u8 s.what) ∧ w'.cell? ⟨T, 1, none⟩ = some (.int .i64 s.half) ∧ w'.cell? ⟨T, 2, none⟩ = some (.int .i64 s.age) ∧ w'.cell? ⟨T, 3, none⟩ = some (.string ⟨s.s.toArray⟩) ∧ w'.cell? ⟨T, 4, none⟩ = some (.int .i64 s.many) ∧ w'.cell? ⟨T, 5, none⟩ = some (.slice s.ka s.keep.length s.kc))
        (first | with_reducible exact k0.out | with_reducible exact k1.out)
        (first
          | (go_at_call 33; (with_reducible refine (TX.out _ _ OD).mono ?_); rintro e1 ws ⟨rfl, OD⟩; have k1 := CK.out _ _ OD (by simp) (by simp))
          | (go_at_call 46; (with_reducible refine (XB.out _ _ OD).mono ?_); rintro e2 wb ⟨rfl, OD⟩; have k1 := CK.out _ _ OD (by simp) (by simp)))
      have FIN := OD.selK 8 [1, 0, 3, 4, 5, 6, 7]
      have e1 : (er == 0) = false := by simpa using her
      have e2 : (er != 0) = true := by rw [bne, e1]; rfl
      have FIN := Lib.hid FIN
      clear OD k0 k1 XB her
      go_wp2
      go_ret
      exact ⟨rfl, lg, mg, d, k, mm, x0, x1, G0.out, G1.out, LF.out.1, LF.out.2.1.trans N, FIN.out⟩
    · rename_i lr
      obtain rfl : er = 0 := ER.out.1 lr rfl
      obtain ⟨q1, q2⟩ := HF.out lr rfl
      simp only at BG XB LF
      go_region_held3 (fun w' => w'.cell? ⟨R, 0, none⟩ = some (.pointer (some ⟨d, 0, none⟩)) ∧ w'.cell? ⟨R, 1, none⟩ = some (.pointer (some ⟨k, 0, none⟩)) ∧ w'.cell? ⟨T, 0, none⟩ = some (.int .u8 s.what) ∧ w'.cell? ⟨T, 1, none⟩ = some (.int .i64 s.half) ∧ w'.cell? ⟨T, 2, none⟩ = some (.int .i64 s.age) ∧ w'.cell? ⟨T, 3, none⟩ = some (.string ⟨s.s.toArray⟩) ∧ w'.cell? ⟨T, 4, none⟩ = some (.int .i64 s.many) ∧ w'.cell? ⟨T, 5, none⟩ = some (.slice s.ka s.keep.length s.kc))
        (first | with_reducible exact k0.out | with_reducible exact k1.out)
        (first
          | (go_at_call 33; (with_reducible refine (TX.out _ _ OD).mono ?_); rintro e1 ws ⟨rfl, OD⟩; have k1 := CK.out _ _ OD (by simp) (by simp))
          | (go_at_call 16; (with_reducible refine (BG.out _ _ OD).mono ?_); rintro e2 wb ⟨q, rfl, OD⟩; have k1 := CK.out _ _ OD (by simp) (by simp)))
      have OX := OD.pick 2
      try simp only [List.map_cons, List.map_nil, List.getD_cons_zero, List.getD_cons_succ, List.eraseIdx_cons_zero, List.eraseIdx_cons_succ, List.getElem_cons_zero, List.getElem_cons_succ, List.take_succ_cons, List.take_zero, List.drop_succ_cons, List.drop_zero, List.cons_append, List.nil_append, List.append_eq] at OX
      clear OD k0 k1 BG
      have OD := OX.drew
      have k0 := CK.out _ _ OX (by simp) (by simp)
      have k1 := CK.out _ _ OD (by simp) (by simp)
      clear OX
      go_wp2_with fail
      go_region_held3 (fun w' => w'.cell? ⟨R, 0, none⟩ = some (.pointer (some ⟨d, 0, none⟩)) ∧ w'.cell? ⟨R, 1, none⟩ = some (.pointer (some ⟨k, 0, none⟩)) ∧ w'.cell? ⟨T, 0, none⟩ = some (.int .u8 s.what) ∧ w'.cell? ⟨T, 1, none⟩ = some (.int .i64 s.half) ∧ w'.cell? ⟨T, 2, none⟩ = some (.int .i64 s.age) ∧ w'.cell? ⟨T, 3, none⟩ = some (.string ⟨s.s.toArray⟩) ∧ w'.cell? ⟨T, 4, none⟩ = some (.int .i64 s.many) ∧ w'.cell? ⟨T, 5, none⟩ = some (.slice s.ka s.keep.length s.kc))
        (first | with_reducible exact k0.out | with_reducible exact k1.out)
        (first
          | (go_at_call 33; (with_reducible refine (TX.out _ _ OD).mono ?_); rintro e1 ws ⟨rfl, OD⟩; have k1 := CK.out _ _ OD (by simp) (by simp))
          | (go_at_call 46; (with_reducible refine (XB.out _ _ OD).mono ?_); rintro e2 wb ⟨y, rfl, OD⟩; have k1 := CK.out _ _ OD (by simp) (by simp)))
      have OX := OD.selK 10 [5, 6, 7, 2, 0, 3, 1, 8, 9]
      try simp only [List.map_cons, List.map_nil, List.getD_cons_zero, List.getD_cons_succ, List.eraseIdx_cons_zero, List.eraseIdx_cons_succ, List.getElem_cons_zero, List.getElem_cons_succ, List.take_succ_cons, List.take_zero, List.drop_succ_cons, List.drop_zero, List.cons_append, List.nil_append, List.append_eq] at OX
      clear OD k0 k1 XB
      obtain ⟨j, hj, hj1⟩ : ∃ j : Nat, s.half = (j : Int) ∧ j ≤ 1 := ⟨(s.half).toNat, by omega, by omega⟩
      go_upto_region 20 with fail
      rw [hj]
      have OD := OX.drew
      have ROW : ∀ (w' : World) (LL : List Piece), Own w0 w' (rowP lg [lp x0, lp x1] :: LL) → ∃ v, w'.cell? ⟨lg, j, none⟩ = some v ∧ w'.frozen? ⟨lg, j, none⟩ = false := fun w' LL h => by
        obtain ⟨-, g2, e, c, f⟩ := Own.rowvAt h j (by simp; omega)
        simp only [Option.some.injEq, Addr.mk.injEq, and_true] at e
        obtain rfl := e
        exact ⟨_, c, f⟩
      have ROX : ∀ (w' : World) (LL : List Piece), Own w0 w' (rowX mg [rp x0, rp x1] :: LL) → ∃ v, w'.cell? ⟨mg, j, none⟩ = some v ∧ w'.frozen? ⟨mg, j, none⟩ = false := fun w' LL h => by
        obtain ⟨-, g2, e, c, f⟩ := Own.rowvAt h j (by simp; omega)
        simp only [Option.some.injEq, Addr.mk.injEq, and_true] at e
        obtain rfl := e
        exact ⟨_, c, f⟩
      have OE : Own w0 (wb.setCell ⟨lg, j, none⟩ (.pointer (some ⟨q, 0, none⟩))).drew (rowP lg ([lp x0, lp x1].set j (lp (some (q, y, lr)))) :: _) := (Own.rowvStore OX j (lp (some (q, y, lr)))).drew
      have OE0 : Own w0 (wb.setCell ⟨lg, j, none⟩ (.pointer (some ⟨q, 0, none⟩))) (rowP lg ([lp x0, lp x1].set j (lp (some (q, y, lr)))) :: _) := Own.rowvStore OX j (lp (some (q, y, lr)))
      have k0 := CK2.out _ _ OX (by simp)
      have k1 := CK2.out _ _ OD (by simp)
      have k2 := CK2.out _ _ OE (by simp)
      obtain ⟨v1, cx, fx⟩ := ROW _ _ OD
      obtain ⟨v2, cy, fy⟩ := ROX _ _ (OE.pick 1)
      have OF : Own w0 ((wb.setCell ⟨lg, j, none⟩ (.pointer (some ⟨q, 0, none⟩))).setCell ⟨mg, j, none⟩ (.pointer (some ⟨y, 0, none⟩))).drew (rowX mg ([rp x0, rp x1].set j (rp (some (q, y, lr)))) :: _) := (Own.rowvStore (OE0.pick 1) j (rp (some (q, y, lr)))).drew
      have k3 := CK2.out _ _ OF (by simp)
      have i2 : (j : Int) < 2 := by omega
      have PK := (OF.selK 7 [3, 4, 0, 1, 2, 5, 6]).pack
      have FIN := Lib.hid (RoomAt.put G0.out G1.out j hj1 (by have h3 := LF.out.2.2 q y; rw [N] at h3; exact h3) LF.out.1 (LF.out.2.1.trans N) (PK.selK 6 [1, 2, 3, 0, 4, 5]))
      clear OE OF OD OX OE0 PK ROW ROX
      go_region_held3 (fun w' => w'.cell? ⟨R, 2, none⟩ = some (.slice (some ⟨lg, 0, none⟩) 2 2) ∧ w'.cell? ⟨R, 3, none⟩ = some (.slice (some ⟨mg, 0, none⟩) 2 2))
        (first | with_reducible exact k0.out | with_reducible exact k1.out | with_reducible exact k2.out | with_reducible exact k3.out)
        (fail)
      trace_state
      go_wp2
      go_ret
      exact ⟨rfl, FIN.out⟩
end Go.Proofs.YtnlppcjfpmnahaaGreatDoor
