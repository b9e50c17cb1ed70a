/- merged: LpC LpR LpD (wip/merge.py) -/
import Derived.Test.YtnlppcjfpmnahaaGreatDoorLpA
import Derived.Test.YtnlppcjfpmnahaaGreatDoorMgDi
/- mailroomlaw12.does: Add, Sync, Fail, Boot; printed by wip/lpc.py. -/
namespace Go.Proofs.YtnlppcjfpmnahaaGreatDoor
set_option linter.all false
open Go.RowKit

theorem Own.front {w0 w : World} {L : List Piece} (h : Own w0 w L) {P : Piece} (hm : P ∈ L) : ∃ L', Own w0 w (P :: L') := by
  obtain ⟨i, hi, e⟩ := List.mem_iff_getElem.1 hm
  have h2 := h.pick i (by rw [Nat.blt_eq]; exact hi)
  rw [e] at h2
  exact ⟨_, h2⟩
set_option maxRecDepth 100000 in
set_option maxHeartbeats 8000000 in
theorem does_sync {w0 w : World} {L : List Piece} {R n c : Nat} (H : RoomAt w0 w L R n c) (hn : n ≤ 40) (hc : c ≤ 8000) (s : St) (sw : s.Wf) (sl : s.s.length < 3000) (h0 : s.what = 2) :
    Calls Tryz.prog 30 #[.pointer (some ⟨R, 0, none⟩), .agg #[.int .u8 s.what, .int .i64 s.half, .int .i64 s.age, .string ⟨s.s.toArray⟩, .int .i64 s.many, .slice s.ka s.keep.length s.kc]] w fun e w' => e = .returned (.bool true) ∧ RoomAt w0 w' L R n (c + 20) := by
  have SA2 := Lib.hid (bounds_i64 sw.age)
  have SWm := Lib.hid sw.many
  have SKp := Lib.hid sw.keep
  have H0 := Lib.hid h0
  clear h0
  obtain ⟨hf, hhf, hmod⟩ := mod2 s.half
  obtain ⟨lg, mg, d, k, m, MM, F, N, ⟨PP, rfl⟩, OO, BK⟩ := H.disk
  have BK := Lib.hid BK
  have FH := Lib.hid F
  clear H F
  have O1 := OO.newBox #[.int .u8 s.what, .int .i64 s.half, .int .i64 s.age, .string ⟨s.s.toArray⟩, .int .i64 s.many, .slice s.ka s.keep.length s.kc] 69
  obtain ⟨T, hT⟩ : ∃ b, b = w.heap.size := ⟨_, rfl⟩
  rw [← hT] at O1
  have OW := O1.selK 5 [1, 2, 0, 3, 4]
  try simp only [List.map_cons, List.map_nil, List.getD_cons_zero, List.getD_cons_succ, List.eraseIdx_cons_zero, List.eraseIdx_cons_succ, List.getElem_cons_zero, List.getElem_cons_succ, List.take_succ_cons, List.take_zero, List.drop_succ_cons, List.drop_zero, List.cons_append, List.nil_append, List.append_eq] at OW
  clear OO O1
  have CK : Hid (∀ w' (LL : List Piece), Own w0 w' LL → box T #[.int .u8 s.what, .int .i64 s.half, .int .i64 s.age, .string ⟨s.s.toArray⟩, .int .i64 s.many, .slice s.ka s.keep.length s.kc] 69 ∈ LL → box R (rcells d k lg mg) 66 ∈ LL → Hid (w'.cell? ⟨R, 0, none⟩ = some (.pointer (some ⟨d, 0, none⟩)) ∧ w'.cell? ⟨R, 1, none⟩ = some (.pointer (some ⟨k, 0, none⟩)) ∧ w'.cell? ⟨T, 0, none⟩ = some (.int .u8 s.what) ∧ w'.cell? ⟨T, 1, none⟩ = some (.int .i64 s.half) ∧ w'.cell? ⟨T, 2, none⟩ = some (.int .i64 s.age) ∧ w'.cell? ⟨T, 3, none⟩ = some (.string ⟨s.s.toArray⟩) ∧ w'.cell? ⟨T, 4, none⟩ = some (.int .i64 s.many) ∧ w'.cell? ⟨T, 5, none⟩ = some (.slice s.ka s.keep.length s.kc))) := fun w' LL h a b =>
    ⟨h.boxCell b 0, h.boxCell b 1, h.boxCell a 0, h.boxCell a 1, h.boxCell a 2, h.boxCell a 3, h.boxCell a 4, h.boxCell a 5⟩
  have SY := Lib.hid (fun w' (LL : List Piece) (h : Own w0 w' (dk (.pointer (some ⟨d, 0, none⟩)) m :: LL)) => sync_fit h FH.out (by omega) (m' := m.sync.1) (er := m.sync.2) rfl)
  have XY := Lib.hid (fun w' (LL : List Piece) (h : Own w0 w' (xk (.pointer (some ⟨k, 0, none⟩)) m :: LL)) => xsync_own h FH.out (by omega) (m' := m.sync.1) (er := m.sync.2) rfl)
  have A2 := Lib.hid FH.out.sync
  have A3 := Lib.hid ((sync_n m).trans N)
  generalize m.sync = RR at SY XY A2 A3
  obtain ⟨m2, er⟩ := RR
  simp only at SY XY A2 A3
  go_enter Tryz.func30, Tryz.ntmps30
  go_upto_region 1 with fail
  rw [← hT]
  clear hT
  generalize (w.alloc (.cells #[.int .u8 s.what, .int .i64 s.half, .int .i64 s.age, .string ⟨s.s.toArray⟩, .int .i64 s.many, .slice s.ka s.keep.length s.kc] 69)) = W at OW ⊢
  obtain ⟨-, -, c0, c1, -⟩ := (CK.out _ _ OW (by simp) (by simp)).out
  rw [H0.out] at c0
  go_upto_region 25 with fail
  have OD := OW.drew
  have k0 := CK.out _ _ OW (by simp) (by simp)
  have k1 := CK.out _ _ OD (by simp) (by simp)
  clear OW c0 c1
  go_region_held3 (fun w' => w'.cell? ⟨R, 0, none⟩ = some (.pointer (some ⟨d, 0, none⟩)) ∧ w'.cell? ⟨R, 1, none⟩ = some (.pointer (some ⟨k, 0, none⟩)) ∧ w'.cell? ⟨T, 0, none⟩ = some (.int .u8 s.what) ∧ w'.cell? ⟨T, 1, none⟩ = some (.int .i64 s.half) ∧ w'.cell? ⟨T, 2, none⟩ = some (.int .i64 s.age) ∧ w'.cell? ⟨T, 3, none⟩ = some (.string ⟨s.s.toArray⟩) ∧ w'.cell? ⟨T, 4, none⟩ = some (.int .i64 s.many) ∧ w'.cell? ⟨T, 5, none⟩ = some (.slice s.ka s.keep.length s.kc))
    (first | with_reducible exact k0.out | with_reducible exact k1.out)
    (first
      | (go_at_call 11; (with_reducible refine (SY.out _ _ OD).mono ?_); rintro e1 wa ⟨rfl, OD⟩; have k1 := CK.out _ _ OD (by simp) (by simp); have OX := OD.pick 1)
      | (go_at_call 48; (with_reducible refine (XY.out _ _ OX).mono ?_); rintro e2 wb ⟨rfl, OD⟩; have k1 := CK.out _ _ OD (by simp) (by simp)))
  clear k0 k1 SY XY
  have FIN := Lib.hid (BK.out _ m2 (c + 20) (A2.out.mono (by omega)) A3.out (OD.selK 5 [1, 0, 3, 4]))
  clear OD
  go_wp2
  go_ret
  exact ⟨rfl, FIN.out⟩
set_option maxRecDepth 100000 in
set_option maxHeartbeats 8000000 in
theorem does_fail {w0 w : World} {L : List Piece} {R n c : Nat} (H : RoomAt w0 w L R n c) (hn : n ≤ 40) (hc : c ≤ 8000) (s : St) (sw : s.Wf) (sl : s.s.length < 3000) (h0 : s.what = 3) :
    Calls Tryz.prog 30 #[.pointer (some ⟨R, 0, none⟩), .agg #[.int .u8 s.what, .int .i64 s.half, .int .i64 s.age, .string ⟨s.s.toArray⟩, .int .i64 s.many, .slice s.ka s.keep.length s.kc]] w fun e w' => e = .returned (.bool true) ∧ RoomAt w0 w' L R n (c + 20) := by
  have SA2 := Lib.hid (bounds_i64 sw.age)
  have SWm := Lib.hid sw.many
  have SKp := Lib.hid sw.keep
  have H0 := Lib.hid h0
  clear h0
  obtain ⟨hf, hhf, hmod⟩ := mod2 s.half
  obtain ⟨lg, mg, d, k, m, MM, F, N, ⟨PP, rfl⟩, OO, BK⟩ := H.disk
  have BK := Lib.hid BK
  have FH := Lib.hid F
  clear H F
  have O1 := OO.newBox #[.int .u8 s.what, .int .i64 s.half, .int .i64 s.age, .string ⟨s.s.toArray⟩, .int .i64 s.many, .slice s.ka s.keep.length s.kc] 69
  obtain ⟨T, hT⟩ : ∃ b, b = w.heap.size := ⟨_, rfl⟩
  rw [← hT] at O1
  have OW := O1.selK 5 [1, 2, 0, 3, 4]
  try simp only [List.map_cons, List.map_nil, List.getD_cons_zero, List.getD_cons_succ, List.eraseIdx_cons_zero, List.eraseIdx_cons_succ, List.getElem_cons_zero, List.getElem_cons_succ, List.take_succ_cons, List.take_zero, List.drop_succ_cons, List.drop_zero, List.cons_append, List.nil_append, List.append_eq] at OW
  clear OO O1
  have CK : Hid (∀ w' (LL : List Piece), Own w0 w' LL → box T #[.int .u8 s.what, .int .i64 s.half, .int .i64 s.age, .string ⟨s.s.toArray⟩, .int .i64 s.many, .slice s.ka s.keep.length s.kc] 69 ∈ LL → box R (rcells d k lg mg) 66 ∈ LL → Hid (w'.cell? ⟨R, 0, none⟩ = some (.pointer (some ⟨d, 0, none⟩)) ∧ w'.cell? ⟨R, 1, none⟩ = some (.pointer (some ⟨k, 0, none⟩)) ∧ w'.cell? ⟨T, 0, none⟩ = some (.int .u8 s.what) ∧ w'.cell? ⟨T, 1, none⟩ = some (.int .i64 s.half) ∧ w'.cell? ⟨T, 2, none⟩ = some (.int .i64 s.age) ∧ w'.cell? ⟨T, 3, none⟩ = some (.string ⟨s.s.toArray⟩) ∧ w'.cell? ⟨T, 4, none⟩ = some (.int .i64 s.many) ∧ w'.cell? ⟨T, 5, none⟩ = some (.slice s.ka s.keep.length s.kc))) := fun w' LL h a b =>
    ⟨h.boxCell b 0, h.boxCell b 1, h.boxCell a 0, h.boxCell a 1, h.boxCell a 2, h.boxCell a 3, h.boxCell a 4, h.boxCell a 5⟩
  go_enter Tryz.func30, Tryz.ntmps30
  go_upto_region 1 with fail
  rw [← hT]
  clear hT
  generalize (w.alloc (.cells #[.int .u8 s.what, .int .i64 s.half, .int .i64 s.age, .string ⟨s.s.toArray⟩, .int .i64 s.many, .slice s.ka s.keep.length s.kc] 69)) = W at OW ⊢
  obtain ⟨-, -, c0, c1, -⟩ := (CK.out _ _ OW (by simp) (by simp)).out
  rw [H0.out] at c0
  have FL := Lib.hid (fun w' (LL : List Piece) (h : Own w0 w' (dk (.pointer (some ⟨d, 0, none⟩)) m :: LL)) => fail_any s.age (by have := SA2.out; omega) h)
  have XL := Lib.hid (fun w' (LL : List Piece) (h : Own w0 w' (xk (.pointer (some ⟨k, 0, none⟩)) m :: LL)) => xfail_own h s.age)
  have A2 : Hid ((m.fail s.age).Fit c) := FH.out.fail (by have := SA2.out; omega)
  have A3 : Hid ((m.fail s.age).n = n) := N
  generalize m.fail s.age = m2 at FL XL A2 A3
  go_upto_region 27 with fail
  have OD := OW.drew
  have k0 := CK.out _ _ OW (by simp) (by simp)
  have k1 := CK.out _ _ OD (by simp) (by simp)
  clear OW c0 c1
  go_region_held3 (fun w' => w'.cell? ⟨R, 0, none⟩ = some (.pointer (some ⟨d, 0, none⟩)) ∧ w'.cell? ⟨R, 1, none⟩ = some (.pointer (some ⟨k, 0, none⟩)) ∧ w'.cell? ⟨T, 0, none⟩ = some (.int .u8 s.what) ∧ w'.cell? ⟨T, 1, none⟩ = some (.int .i64 s.half) ∧ w'.cell? ⟨T, 2, none⟩ = some (.int .i64 s.age) ∧ w'.cell? ⟨T, 3, none⟩ = some (.string ⟨s.s.toArray⟩) ∧ w'.cell? ⟨T, 4, none⟩ = some (.int .i64 s.many) ∧ w'.cell? ⟨T, 5, none⟩ = some (.slice s.ka s.keep.length s.kc))
    (first | with_reducible exact k0.out | with_reducible exact k1.out)
    (first
      | (go_at_call 14; (with_reducible refine (FL.out _ _ OD).mono ?_); rintro e1 wa ⟨rfl, OD⟩; have k1 := CK.out _ _ OD (by simp) (by simp)))
  have OW := OD.pick 1
  try simp only [List.map_cons, List.map_nil, List.getD_cons_zero, List.getD_cons_succ, List.eraseIdx_cons_zero, List.eraseIdx_cons_succ, List.getElem_cons_zero, List.getElem_cons_succ, List.take_succ_cons, List.take_zero, List.drop_succ_cons, List.drop_zero, List.cons_append, List.nil_append, List.append_eq] at OW
  clear k0 k1 FL OD
  have OD := OW.drew
  have k0 := CK.out _ _ OW (by simp) (by simp)
  have k1 := CK.out _ _ OD (by simp) (by simp)
  clear OW
  go_wp2_with fail
  go_region_held3 (fun w' => w'.cell? ⟨R, 0, none⟩ = some (.pointer (some ⟨d, 0, none⟩)) ∧ w'.cell? ⟨R, 1, none⟩ = some (.pointer (some ⟨k, 0, none⟩)) ∧ w'.cell? ⟨T, 0, none⟩ = some (.int .u8 s.what) ∧ w'.cell? ⟨T, 1, none⟩ = some (.int .i64 s.half) ∧ w'.cell? ⟨T, 2, none⟩ = some (.int .i64 s.age) ∧ w'.cell? ⟨T, 3, none⟩ = some (.string ⟨s.s.toArray⟩) ∧ w'.cell? ⟨T, 4, none⟩ = some (.int .i64 s.many) ∧ w'.cell? ⟨T, 5, none⟩ = some (.slice s.ka s.keep.length s.kc))
    (first | with_reducible exact k0.out | with_reducible exact k1.out)
    (first
      | (go_at_call 49; (with_reducible refine (XL.out _ _ OD).mono ?_); rintro e1 wa ⟨rfl, OD⟩; have k1 := CK.out _ _ OD (by simp) (by simp)))
  clear k0 k1 XL
  have FIN := Lib.hid (BK.out _ m2 (c + 20) (A2.out.mono (by omega)) A3.out (OD.selK 5 [1, 0, 3, 4]))
  clear OD
  go_wp2
  go_ret
  exact ⟨rfl, FIN.out⟩
set_option maxRecDepth 100000 in
set_option maxHeartbeats 8000000 in
theorem does_boot {w0 w : World} {L : List Piece} {R n c : Nat} (H : RoomAt w0 w L R n c) (hn : n ≤ 40) (hc : c ≤ 8000) (s : St) (sw : s.Wf) (sl : s.s.length < 3000) (h0 : s.what = 4) {G : List Nat} (hs : SlR w0 (.slice s.ka s.keep.length s.kc) (s.keep.map (Value.int .i64)) G) :
    Calls Tryz.prog 30 #[.pointer (some ⟨R, 0, none⟩), .agg #[.int .u8 s.what, .int .i64 s.half, .int .i64 s.age, .string ⟨s.s.toArray⟩, .int .i64 s.many, .slice s.ka s.keep.length s.kc]] w fun e w' => e = .returned (.bool true) ∧ RoomAt w0 w' L R n (c + 20) := by
  have SA2 := Lib.hid (bounds_i64 sw.age)
  have SWm := Lib.hid sw.many
  have SKp := Lib.hid sw.keep
  have H0 := Lib.hid h0
  clear h0
  obtain ⟨hf, hhf, hmod⟩ := mod2 s.half
  obtain ⟨lg, mg, d, k, m, MM, F, N, ⟨PP, rfl⟩, OO, BK⟩ := H.disk
  have BK := Lib.hid BK
  have FH := Lib.hid F
  clear H F
  have O1 := OO.newBox #[.int .u8 s.what, .int .i64 s.half, .int .i64 s.age, .string ⟨s.s.toArray⟩, .int .i64 s.many, .slice s.ka s.keep.length s.kc] 69
  obtain ⟨T, hT⟩ : ∃ b, b = w.heap.size := ⟨_, rfl⟩
  rw [← hT] at O1
  have OW := O1.selK 5 [1, 2, 0, 3, 4]
  try simp only [List.map_cons, List.map_nil, List.getD_cons_zero, List.getD_cons_succ, List.eraseIdx_cons_zero, List.eraseIdx_cons_succ, List.getElem_cons_zero, List.getElem_cons_succ, List.take_succ_cons, List.take_zero, List.drop_succ_cons, List.drop_zero, List.cons_append, List.nil_append, List.append_eq] at OW
  clear OO O1
  have CK : Hid (∀ w' (LL : List Piece), Own w0 w' LL → box T #[.int .u8 s.what, .int .i64 s.half, .int .i64 s.age, .string ⟨s.s.toArray⟩, .int .i64 s.many, .slice s.ka s.keep.length s.kc] 69 ∈ LL → box R (rcells d k lg mg) 66 ∈ LL → Hid (w'.cell? ⟨R, 0, none⟩ = some (.pointer (some ⟨d, 0, none⟩)) ∧ w'.cell? ⟨R, 1, none⟩ = some (.pointer (some ⟨k, 0, none⟩)) ∧ w'.cell? ⟨T, 0, none⟩ = some (.int .u8 s.what) ∧ w'.cell? ⟨T, 1, none⟩ = some (.int .i64 s.half) ∧ w'.cell? ⟨T, 2, none⟩ = some (.int .i64 s.age) ∧ w'.cell? ⟨T, 3, none⟩ = some (.string ⟨s.s.toArray⟩) ∧ w'.cell? ⟨T, 4, none⟩ = some (.int .i64 s.many) ∧ w'.cell? ⟨T, 5, none⟩ = some (.slice s.ka s.keep.length s.kc))) := fun w' LL h a b =>
    ⟨h.boxCell b 0, h.boxCell b 1, h.boxCell a 0, h.boxCell a 1, h.boxCell a 2, h.boxCell a 3, h.boxCell a 4, h.boxCell a 5⟩
  have HS := Lib.hid hs
  clear hs
  have SY := Lib.hid (fun w' (LL : List Piece) (h : Own w0 w' (dk (.pointer (some ⟨d, 0, none⟩)) m :: LL)) => boot_fit h FH.out (by omega) s.ka s.keep.length s.kc s.keep (fun w2 m2 h2 => ⟨_, HS.out.keep h2.chg (by simp)⟩) SKp.out.1 (m' := (m.boot s.keep).1) (er := (m.boot s.keep).2) rfl)
  have XY := Lib.hid (fun w' (LL : List Piece) (h : Own w0 w' (xk (.pointer (some ⟨k, 0, none⟩)) m :: LL)) => xboot_own h FH.out (by omega) s.ka s.kc s.keep _ HS.out SKp.out.1 (m' := (m.boot s.keep).1) (er := (m.boot s.keep).2) rfl)
  have A2 := Lib.hid (FH.out.boot s.keep)
  have A3 := Lib.hid ((boot_n m s.keep).trans N)
  generalize m.boot s.keep = RR at SY XY A2 A3
  obtain ⟨m2, er⟩ := RR
  simp only at SY XY A2 A3
  go_enter Tryz.func30, Tryz.ntmps30
  go_upto_region 1 with fail
  rw [← hT]
  clear hT
  generalize (w.alloc (.cells #[.int .u8 s.what, .int .i64 s.half, .int .i64 s.age, .string ⟨s.s.toArray⟩, .int .i64 s.many, .slice s.ka s.keep.length s.kc] 69)) = W at OW ⊢
  obtain ⟨-, -, c0, c1, -⟩ := (CK.out _ _ OW (by simp) (by simp)).out
  rw [H0.out] at c0
  go_upto_region 30 with fail
  have OD := OW.drew
  have k0 := CK.out _ _ OW (by simp) (by simp)
  have k1 := CK.out _ _ OD (by simp) (by simp)
  clear OW c0 c1
  go_region_held3 (fun w' => w'.cell? ⟨R, 0, none⟩ = some (.pointer (some ⟨d, 0, none⟩)) ∧ w'.cell? ⟨R, 1, none⟩ = some (.pointer (some ⟨k, 0, none⟩)) ∧ w'.cell? ⟨T, 0, none⟩ = some (.int .u8 s.what) ∧ w'.cell? ⟨T, 1, none⟩ = some (.int .i64 s.half) ∧ w'.cell? ⟨T, 2, none⟩ = some (.int .i64 s.age) ∧ w'.cell? ⟨T, 3, none⟩ = some (.string ⟨s.s.toArray⟩) ∧ w'.cell? ⟨T, 4, none⟩ = some (.int .i64 s.many) ∧ w'.cell? ⟨T, 5, none⟩ = some (.slice s.ka s.keep.length s.kc))
    (first | with_reducible exact k0.out | with_reducible exact k1.out)
    (first
      | (go_at_call 20; (with_reducible refine (SY.out _ _ OD).mono ?_); rintro e1 wa ⟨rfl, OD⟩; have k1 := CK.out _ _ OD (by simp) (by simp); have OX := OD.pick 1)
      | (go_at_call 50; (with_reducible refine (XY.out _ _ OX).mono ?_); rintro e2 wb ⟨rfl, OD⟩; have k1 := CK.out _ _ OD (by simp) (by simp)))
  clear k0 k1 SY XY
  have FIN := Lib.hid (BK.out _ m2 (c + 20) (A2.out.mono (by omega)) A3.out (OD.selK 5 [1, 0, 3, 4]))
  clear OD
  go_wp2
  go_ret
  exact ⟨rfl, FIN.out⟩
end Go.Proofs.YtnlppcjfpmnahaaGreatDoor
/- mailroomlaw12: the rows of both halves. -/
namespace Go.Proofs.YtnlppcjfpmnahaaGreatDoor
set_option linter.all false
open Go.RowKit

theorem rowP_at {w0 w : World} {L : List Piece} (h : Own w0 w L) {lg : Nat} {u v : Value} (hm : rowP lg [u, v] ∈ L) : w.cell? ⟨lg, 0, none⟩ = some u ∧ w.frozen? ⟨lg, 0, none⟩ = false ∧ w.cell? ⟨lg, 1, none⟩ = some v ∧ w.frozen? ⟨lg, 1, none⟩ = false := by
  obtain ⟨L2, h2⟩ := h.front hm
  obtain ⟨-, g2, e, c, f⟩ := Own.rowvAt h2 0 (by simp)
  simp only [Option.some.injEq, Addr.mk.injEq, and_true] at e
  obtain rfl := e
  obtain ⟨-, g3, e, c2, f2⟩ := Own.rowvAt h2 1 (by simp)
  simp only [Option.some.injEq, Addr.mk.injEq, and_true] at e
  obtain rfl := e
  exact ⟨c, f, c2, f2⟩
theorem rowX_at {w0 w : World} {L : List Piece} (h : Own w0 w L) {mg : Nat} {u v : Value} (hm : rowX mg [u, v] ∈ L) : w.cell? ⟨mg, 0, none⟩ = some u ∧ w.frozen? ⟨mg, 0, none⟩ = false ∧ w.cell? ⟨mg, 1, none⟩ = some v ∧ w.frozen? ⟨mg, 1, none⟩ = false := by
  obtain ⟨L2, h2⟩ := h.front hm
  obtain ⟨-, g2, e, c, f⟩ := Own.rowvAt h2 0 (by simp)
  simp only [Option.some.injEq, Addr.mk.injEq, and_true] at e
  obtain rfl := e
  obtain ⟨-, g3, e, c2, f2⟩ := Own.rowvAt h2 1 (by simp)
  simp only [Option.some.injEq, Addr.mk.injEq, and_true] at e
  obtain rfl := e
  exact ⟨c, f, c2, f2⟩
end Go.Proofs.YtnlppcjfpmnahaaGreatDoor
/- mailroomlaw12.does: an Add; printed by wip/lpc.py. -/
namespace Go.Proofs.YtnlppcjfpmnahaaGreatDoor
set_option linter.all false
open Go.RowKit

set_option maxRecDepth 100000 in
set_option maxHeartbeats 8000000 in
theorem does_add {w0 w : World} {L : List Piece} {R n c : Nat} (H : RoomAt w0 w L R n c) (hn : n ≤ 40) (hc : c ≤ 8000) (s : St) (sw : s.Wf) (sl : s.s.length < 3000) (h0 : s.what = 1) :
    Calls Tryz.prog 30 #[.pointer (some ⟨R, 0, none⟩), .agg #[.int .u8 s.what, .int .i64 s.half, .int .i64 s.age, .string ⟨s.s.toArray⟩, .int .i64 s.many, .slice s.ka s.keep.length s.kc]] w fun e w' => e = .returned (.bool true) ∧ RoomAt w0 w' L R n (c + 20) := by
  have SA2 := Lib.hid (bounds_i64 sw.age)
  have SWm := Lib.hid sw.many
  have SKp := Lib.hid sw.keep
  have H0 := Lib.hid h0
  clear h0
  obtain ⟨hf, hhf, hmod⟩ := mod2 s.half
  obtain ⟨lg, mg, d, k, m, a, b, xs, ys, xl, yl, xj, yj, ga, F, N, OO, BK⟩ := H.at hf hhf
  have BK := Lib.hid BK
  have FH := Lib.hid F
  have GA := Lib.hid ga
  have XJ := Lib.hid xj
  have YJ := Lib.hid yj
  clear H F ga xj yj
  have O1 := OO.newBox #[.int .u8 s.what, .int .i64 s.half, .int .i64 s.age, .string ⟨s.s.toArray⟩, .int .i64 s.many, .slice s.ka s.keep.length s.kc] 69
  obtain ⟨T, hT⟩ : ∃ b, b = w.heap.size := ⟨_, rfl⟩
  rw [← hT] at O1
  have OW := O1.selK 8 [1, 2, 0, 3, 4, 5, 6, 7]
  try simp only [List.map_cons, List.map_nil, List.getD_cons_zero, List.getD_cons_succ, List.eraseIdx_cons_zero, List.eraseIdx_cons_succ, List.getElem_cons_zero, List.getElem_cons_succ, List.take_succ_cons, List.take_zero, List.drop_succ_cons, List.drop_zero, List.cons_append, List.nil_append, List.append_eq] at OW
  clear OO O1
  have CK : Hid (∀ w' (LL : List Piece), Own w0 w' LL → box T #[.int .u8 s.what, .int .i64 s.half, .int .i64 s.age, .string ⟨s.s.toArray⟩, .int .i64 s.many, .slice s.ka s.keep.length s.kc] 69 ∈ LL → box R (rcells d k lg mg) 66 ∈ LL → Hid (w'.cell? ⟨R, 0, none⟩ = some (.pointer (some ⟨d, 0, none⟩)) ∧ w'.cell? ⟨R, 1, none⟩ = some (.pointer (some ⟨k, 0, none⟩)) ∧ w'.cell? ⟨T, 0, none⟩ = some (.int .u8 s.what) ∧ w'.cell? ⟨T, 1, none⟩ = some (.int .i64 s.half) ∧ w'.cell? ⟨T, 2, none⟩ = some (.int .i64 s.age) ∧ w'.cell? ⟨T, 3, none⟩ = some (.string ⟨s.s.toArray⟩) ∧ w'.cell? ⟨T, 4, none⟩ = some (.int .i64 s.many) ∧ w'.cell? ⟨T, 5, none⟩ = some (.slice s.ka s.keep.length s.kc))) := fun w' LL h a b =>
    ⟨h.boxCell b 0, h.boxCell b 1, h.boxCell a 0, h.boxCell a 1, h.boxCell a 2, h.boxCell a 3, h.boxCell a 4, h.boxCell a 5⟩
  have CK2 : Hid (∀ w' (LL : List Piece), Own w0 w' LL → box R (rcells d k lg mg) 66 ∈ LL → Hid (w'.cell? ⟨R, 2, none⟩ = some (.slice (some ⟨lg, 0, none⟩) 2 2) ∧ w'.cell? ⟨R, 3, none⟩ = some (.slice (some ⟨mg, 0, none⟩) 2 2))) := fun w' LL h b => ⟨h.boxCell b 2, h.boxCell b 3⟩
  have CX : Hid (∀ w' (LL : List Piece), Own w0 w' LL → rowP lg xs ∈ LL → w'.cell? ⟨lg, hf, none⟩ = some (lp a)) := fun w' LL h hm => by
    obtain ⟨L2, h2⟩ := h.front hm
    have hl : hf < xs.length := by rw [xl]; omega
    obtain ⟨-, g2, e, c, f⟩ := Own.rowvAt h2 hf hl
    simp only [Option.some.injEq, Addr.mk.injEq, and_true] at e
    obtain rfl := e
    have e2 := XJ.out
    rw [List.getElem?_eq_getElem hl] at e2
    rw [Option.some.inj e2] at c
    exact c
  have CY : Hid (∀ w' (LL : List Piece), Own w0 w' LL → rowX mg ys ∈ LL → w'.cell? ⟨mg, hf, none⟩ = some (rp a)) := fun w' LL h hm => by
    obtain ⟨L2, h2⟩ := h.front hm
    have hl : hf < ys.length := by rw [yl]; omega
    obtain ⟨-, g2, e, c, f⟩ := Own.rowvAt h2 hf hl
    simp only [Option.some.injEq, Addr.mk.injEq, and_true] at e
    obtain rfl := e
    have e2 := YJ.out
    rw [List.getElem?_eq_getElem hl] at e2
    rw [Option.some.inj e2] at c
    exact c
  have TX := Lib.hid (fun w' (LL : List Piece) (h : Own w0 w' LL) => text12_own h s (by omega) SWm.out)
  have TL : Hid ((textL s).length ≤ 4500) := by have := textL_len s; unfold Hid; omega
  generalize textL s = tx at TX TL
  have i2 : (hf : Int) < 2 := by omega
  go_enter Tryz.func30, Tryz.ntmps30
  go_upto_region 1 with fail
  rw [← hT]
  clear hT
  generalize (w.alloc (.cells #[.int .u8 s.what, .int .i64 s.half, .int .i64 s.age, .string ⟨s.s.toArray⟩, .int .i64 s.many, .slice s.ka s.keep.length s.kc] 69)) = W at OW ⊢
  obtain ⟨-, -, c0, c1, -⟩ := (CK.out _ _ OW (by simp) (by simp)).out
  rw [H0.out] at c0
  go_upto_region 22 with fail
  try rw [hmod]
  obtain ⟨-, r3⟩ := (CK2.out _ _ OW (by simp)).out
  have cy := CY.out _ _ OW (by simp)
  clear c0 c1
  cases a
  · have cy2 : W.cell? ⟨mg, hf, none⟩ = some (.pointer none) := cy
    clear cy
    have FIN := BK.out _ m none (c + 20) (goodP_none _) (FH.out.mono (by omega)) N (by rw [set_same XJ.out, set_same YJ.out]; exact OW.selK 8 [0, 1, 3, 4, 5, 6, 7])
    have FIN := Lib.hid FIN
    clear OW
    go_wp2
    go_ret
    exact ⟨rfl, FIN.out⟩
  · rename_i qq
    obtain ⟨q, y, l⟩ := qq
    have cy2 : W.cell? ⟨mg, hf, none⟩ = some (.pointer (some ⟨y, 0, none⟩)) := cy
    clear cy
    have lon : l.On m := goodP_on (by rw [N]; exact GA.out)
    have lmn : l.many ≤ 20 := (GA.out q y l rfl).2.2.2
    have AC := Lib.hid (fun w' (LL : List Piece) (h : Own w0 w' (lgb q l (.pointer (some ⟨d, 0, none⟩)) :: dk (.pointer (some ⟨d, 0, none⟩)) m :: LL)) => add_own h lon FH.out (by omega) tx (by have := TL.out; omega))
    have XC := Lib.hid (fun w' (LL : List Piece) (h : Own w0 w' (xlb y l (.pointer (some ⟨k, 0, none⟩)) :: xk (.pointer (some ⟨k, 0, none⟩)) m :: LL)) => xadd_own h lon FH.out (by omega) tx (by have := TL.out; omega))
    have A2 := Lib.hid (add_fits (l := l) FH.out tx)
    have A3 := Lib.hid ((add_n m l tx).trans N)
    have A4 := goodP_of (q := q) (y := y) (lon.add tx) (by rw [add_many]; exact lmn)
    rw [add_n, N] at A4
    have A4 := Lib.hid A4
    unfold AddPost at AC
    unfold XAddPost at XC
    generalize l.add m tx = RR at AC XC A2 A3 A4
    obtain ⟨l2, m2, er⟩ := RR
    simp only at AC XC A2 A3 A4
    have O1 := (OW.selK 8 [6, 0, 1, 2, 3, 4, 5, 7]).unpack
    have O2 := O1.selK 9 [0, 2, 1, 3, 4, 5, 6, 7, 8]
    try simp only [List.map_cons, List.map_nil, List.getD_cons_zero, List.getD_cons_succ, List.eraseIdx_cons_zero, List.eraseIdx_cons_succ, List.getElem_cons_zero, List.getElem_cons_succ, List.take_succ_cons, List.take_zero, List.drop_succ_cons, List.drop_zero, List.cons_append, List.nil_append, List.append_eq] at O2
    go_upto_region 23 with fail
    clear OW O1
    have OD := O2.drew
    have CZ : Hid (∀ w' (LL : List Piece), Own w0 w' LL → box T #[.int .u8 s.what, .int .i64 s.half, .int .i64 s.age, .string ⟨s.s.toArray⟩, .int .i64 s.many, .slice s.ka s.keep.length s.kc] 69 ∈ LL → box R (rcells d k lg mg) 66 ∈ LL → rowP lg xs ∈ LL → rowX mg ys ∈ LL → Hid (w'.cell? ⟨R, 2, none⟩ = some (.slice (some ⟨lg, 0, none⟩) 2 2) ∧ w'.cell? ⟨R, 3, none⟩ = some (.slice (some ⟨mg, 0, none⟩) 2 2) ∧ w'.cell? ⟨lg, hf, none⟩ = some (.pointer (some ⟨q, 0, none⟩)) ∧ w'.cell? ⟨mg, hf, none⟩ = some (.pointer (some ⟨y, 0, none⟩)) ∧ w'.cell? ⟨T, 0, none⟩ = some (.int .u8 s.what) ∧ w'.cell? ⟨T, 1, none⟩ = some (.int .i64 s.half) ∧ w'.cell? ⟨T, 2, none⟩ = some (.int .i64 s.age) ∧ w'.cell? ⟨T, 3, none⟩ = some (.string ⟨s.s.toArray⟩) ∧ w'.cell? ⟨T, 4, none⟩ = some (.int .i64 s.many) ∧ w'.cell? ⟨T, 5, none⟩ = some (.slice s.ka s.keep.length s.kc))) := fun w' LL h a b e f =>
      ⟨h.boxCell b 2, h.boxCell b 3, CX.out _ _ h e, CY.out _ _ h f, h.boxCell a 0, h.boxCell a 1, h.boxCell a 2, h.boxCell a 3, h.boxCell a 4, h.boxCell a 5⟩
    have k0 := CZ.out _ _ O2 (by simp) (by simp) (by simp) (by simp)
    have k1 := CZ.out _ _ OD (by simp) (by simp) (by simp) (by simp)
    clear O2 r3 cy2
    go_region_held3 (fun w' => w'.cell? ⟨R, 2, none⟩ = some (.slice (some ⟨lg, 0, none⟩) 2 2) ∧ w'.cell? ⟨R, 3, none⟩ = some (.slice (some ⟨mg, 0, none⟩) 2 2) ∧ w'.cell? ⟨lg, hf, none⟩ = some (.pointer (some ⟨q, 0, none⟩)) ∧ w'.cell? ⟨mg, hf, none⟩ = some (.pointer (some ⟨y, 0, none⟩)) ∧ w'.cell? ⟨T, 0, none⟩ = some (.int .u8 s.what) ∧ w'.cell? ⟨T, 1, none⟩ = some (.int .i64 s.half) ∧ w'.cell? ⟨T, 2, none⟩ = some (.int .i64 s.age) ∧ w'.cell? ⟨T, 3, none⟩ = some (.string ⟨s.s.toArray⟩) ∧ w'.cell? ⟨T, 4, none⟩ = some (.int .i64 s.many) ∧ w'.cell? ⟨T, 5, none⟩ = some (.slice s.ka s.keep.length s.kc))
      (first | with_reducible exact k0.out | with_reducible exact k1.out)
      (first
        | (go_at_call 33; (with_reducible refine (TX.out _ _ OD).mono ?_); rintro e1 ws ⟨rfl, OD⟩; have k1 := CZ.out _ _ OD (by simp) (by simp) (by simp) (by simp); have OX := OD.selK 4 [2, 3, 0, 1])
        | (go_at_call 17; (with_reducible refine (AC.out _ _ OD).mono ?_); rintro e2 wa ⟨rfl, OD⟩; have k1 := CZ.out _ _ OD (by simp) (by simp) (by simp) (by simp))
        | (go_at_call 47; (with_reducible refine (XC.out _ _ OX).mono ?_); rintro e3 wb ⟨rfl, OD⟩; have k1 := CZ.out _ _ OD (by simp) (by simp) (by simp) (by simp)))
    clear k0 k1 AC XC
    have O3 := (OD.selK 9 [2, 0, 3, 1, 4, 5, 6, 7, 8]).pack
    have O4 := O3.selK 8 [1, 2, 4, 5, 6, 0, 7]
    have FIN := BK.out wb m2 (some (q, y, l2)) (c + 20) A4.out (A2.out.mono (by omega)) A3.out (by
      rw [show lp (some (q, y, l2)) = lp (some (q, y, l)) from rfl, show rp (some (q, y, l2)) = rp (some (q, y, l)) from rfl, set_same XJ.out, set_same YJ.out]
      exact O4)
    have FIN := Lib.hid FIN
    clear OD O3 O4
    go_wp2
    go_ret
    exact ⟨rfl, FIN.out⟩
end Go.Proofs.YtnlppcjfpmnahaaGreatDoor
