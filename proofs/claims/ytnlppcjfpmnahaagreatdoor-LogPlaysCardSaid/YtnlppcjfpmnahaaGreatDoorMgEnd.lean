/- merged: LpG LogPlays (wip/merge.py) -/
import Derived.Test.YtnlppcjfpmnahaaGreatDoorLpB
import Derived.Test.YtnlppcjfpmnahaaGreatDoorLpE
import Derived.Test.YtnlppcjfpmnahaaGreatDoorMgLp
import Derived.Test.YtnlppcjfpmnahaaGreatDoorLpF
/- mailroomlaw12.does, whole; what LogPlays needs besides. -/
namespace Go.Proofs.YtnlppcjfpmnahaaGreatDoor
set_option linter.all false
open Go.RowKit

theorem does_own {w0 w : World} {L : List Piece} {R n c : Nat} (H : RoomAt w0 w L R n c) (hn : n ≤ 40) (hn1 : 0 < n) (hc : c ≤ 8000) (s : St) (sw : s.Wf) (sl : s.s.length < 3000) {G : List Nat} (hs : SlR w0 (.slice s.ka s.keep.length s.kc) (s.keep.map (Value.int .i64)) G) :
    Calls Tryz.prog 30 #[.pointer (some ⟨R, 0, none⟩), .agg #[.int .u8 s.what, .int .i64 s.half, .int .i64 s.age, .string ⟨s.s.toArray⟩, .int .i64 s.many, .slice s.ka s.keep.length s.kc]] w fun e w' => e = .returned (.bool true) ∧ RoomAt w0 w' L R n (c + 20) := by
  by_cases h0 : s.what = 0
  · exact does_begin H hn hc s sw sl h0
  by_cases h1 : s.what = 1
  · exact does_add H hn hc s sw sl h1
  by_cases h2 : s.what = 2
  · exact does_sync H hn hc s sw sl h2
  by_cases h3 : s.what = 3
  · exact does_fail H hn hc s sw sl h3
  by_cases h4 : s.what = 4
  · exact does_boot H hn hc s sw sl h4 hs
  exact does_copy H hn hn1 s h0 h1 h2 h3 h4
theorem RoomAt.own {w0 w : World} {L : List Piece} {R n c : Nat} (h : RoomAt w0 w L R n c) : ∃ LL, Own w0 w LL := by
  obtain ⟨lg, mg, d, k, m, x0, x1, -, -, -, -, O⟩ := h
  exact ⟨_, O⟩
theorem RoomAt.mono {w0 w : World} {L : List Piece} {R n c c' : Nat} (h : RoomAt w0 w L R n c) (hc : c ≤ c') : RoomAt w0 w L R n c' := by
  obtain ⟨lg, mg, d, k, m, x0, x1, a, b, F, e, O⟩ := h
  exact ⟨lg, mg, d, k, m, x0, x1, a, b, F.mono hc, e, O⟩
theorem Own.newRow {w0 w : World} {L : List Piece} (h : Own w0 w L) (e : TypeId) (a b : Value) : Own w0 (w.alloc (.cells #[a, b] e)) (rowv e 1 (.slice (some ⟨w.heap.size, 0, none⟩) 2 2) 2 [a, b] :: L) :=
  h.new ((Chg.refl [] w).alloc _) (rowv e 1 _ 2 [a, b]) (F := [w.heap.size]) ⟨World.ownsRow_lit w #[a, b] 2 h.size (by unfold maxLen; omega) (by simp), rfl⟩ (by simp)
/-- a room's beginning -/
theorem RoomAt.start {w0 w : World} {L : List Piece} {R lg mg d k n : Nat} (h1 : 1 ≤ n) (h2 : n ≤ 40)
    (O : Own w0 w (box R (rcells d k lg mg) 66 :: rowP lg [.pointer none, .pointer none] :: rowX mg [.pointer none, .pointer none] :: dk (.pointer (some ⟨d, 0, none⟩)) (Dk.new n) :: xk (.pointer (some ⟨k, 0, none⟩)) (Dk.new n) :: L)) : RoomAt w0 w L R n 0 := by
  have A : Own w0 w (fact True :: fact True :: _) := (O.factI (p := True) trivial).factI (p := True) trivial
  exact ⟨lg, mg, d, k, Dk.new n, none, none, goodP_none _, goodP_none _, Fit.new (by omega), rfl, A.selK 7 [5, 6, 3, 4, 2, 0, 1]⟩
theorem half_all (n : Nat) (hn : n ≤ 9223372036854775807) (h : Int) : ∃ a b : Int, (∀ w, Calls Tryz.prog 26 #[.int .i64 n, .int .i64 h] w fun e w' => e = .returned (.tuple #[.int .i64 a, .int .i64 b]) ∧ w = w') ∧ (∀ w, Calls Tryz.prog 32 #[.int .i64 n, .int .i64 h] w fun e w' => e = .returned (.tuple #[.int .i64 a, .int .i64 b]) ∧ w = w') := by
  by_cases hb : (n : Int) < 0 ∨ h < 0 ∨ 1 < h
  · exact ⟨0, 0, fun w => half_bad n h hb w, fun w => xhalf_bad n h hb w⟩
  · obtain ⟨k, rfl⟩ : ∃ k : Nat, h = (k : Int) := ⟨h.toNat, by omega⟩
    exact ⟨_, _, fun w => half_good n hn k (by omega) w, fun w => xhalf_good n hn k (by omega) w⟩
end Go.Proofs.YtnlppcjfpmnahaaGreatDoor
/- LogPlays: the walk. -/
namespace Go.Proofs.YtnlppcjfpmnahaaGreatDoor
set_option linter.all false
open Go.RowKit

theorem sizeA (w : World) (o : Obj) : (w.alloc o).heap.size = w.heap.size + 1 := by simp
theorem make_two {t e : TypeId} {i : TypeInfo} (ht : Tryz.prog.underlying t = some (.slice e)) (hi : Tryz.prog.info? e = some i) (hz : i.zero = some (.pointer none)) (hsize : i.size = 1) (hb : i.bytes ≤ 1000) (W : World) :
    (Instr.makeSlice t (.int .i64 2) (.int .i64 2)).run Tryz.prog W = .ok (.slice (some ⟨W.heap.size, 0, none⟩) 2 2) (W.alloc (.cells #[.pointer none, .pointer none] e)) := by
  have h := run_makeSlice (P := Tryz.prog) W t e i (Value.pointer none) ht hi hz .i64 .i64 2 2 (by omega) (by omega) (by rw [hsize]; decide) (by omega) (by omega)
  rw [hsize] at h
  have e2 : madeCells (Value.pointer none).cells ((2 : Int).toNat * 1) = #[.pointer none, .pointer none] := by kernel_rfl
  rw [e2] at h
  exact h
set_option maxRecDepth 100000 in
set_option maxHeartbeats 8000000 in
theorem logPlays_walk {w : World} (n : Int) (hn : (Lit.int .i64 n).wf = true) (v1 : Value) (o1 : ∃ (l : List St) (G : List Nat), StepsR w v1 l G ∧ l.length ≤ maxLen ∧ ∀ s ∈ l, s.Wf) :
    Calls Tryz.prog 5 #[.int .i64 n, v1] w fun e w' => e = .returned (.bool true) ∧ Below w.heap.size w w' := by
  obtain ⟨l, G, hl, ll, lw⟩ := o1
  obtain ⟨a1, cap1, rfl, -⟩ := id hl
  have O := Own.start w
  have HL := Lib.hid hl
  have LW := Lib.hid lw
  have LL := Lib.hid ll
  obtain ⟨N1, hN1⟩ : ∃ N, N = l.length := ⟨_, rfl⟩
  rw [← hN1] at HL LL ⊢
  have HN1 := Lib.hid hN1
  have l1 : N1 ≤ 9223372036854775807 := LL.out
  clear hl lw ll hN1
  go_enter Tryz.func5, Tryz.ntmps5
  go_wp2_with fail
  refine (long12_own O HL.out LL.out LW.out).mono ?_
  clear O
  rintro e w2 ⟨r, rfl, O, hr⟩
  cases r
  rotate_left
  · go_wp2_with fail
    refine (works12_own O).mono ?_
    clear O
    rintro e w2 ⟨rfl, O⟩
    go_wp2
    go_ret
    exact ⟨rfl, O.below⟩
  have HSUM := Lib.hid (hr rfl)
  clear hr
  by_cases n40 : 40 < n
  · go_wp2_with fail
    refine (works12_own O).mono ?_
    clear O
    rintro e w2 ⟨rfl, O⟩
    go_wp2
    go_ret
    exact ⟨rfl, O.below⟩
  by_cases n1 : n < 1
  · have NB := new_bad n (.inl n1)
    have XB := xnew_bad n (.inl n1)
    go_wp2_with fail
    refine (NB _).mono ?_
    rintro _ w3 ⟨rfl, rfl⟩
    go_wp2_with fail
    refine (XB _).mono ?_
    rintro _ w3 ⟨rfl, rfl⟩
    clear NB XB
    go_wp2_with fail
    refine (works12_own O).mono ?_
    clear O
    rintro e w2 ⟨rfl, O⟩
    go_wp2
    go_ret
    exact ⟨rfl, O.below⟩
  obtain ⟨k, rfl⟩ : ∃ k : Nat, n = (k : Int) := ⟨n.toNat, by omega⟩
  have k40 : k ≤ 40 := by omega
  have k1 : 1 ≤ k := by omega
  clear n40 n1 hn
  go_wp2_with fail
  refine (new_own O k (by omega) (by omega)).mono ?_
  clear O
  rintro _ w3 ⟨b, rfl, O⟩
  go_wp2_with fail
  refine (xnew_own O k (by omega) (by omega)).mono ?_
  clear O
  rintro _ w4 ⟨b2, rfl, O⟩
  have O2 := O.pick 1
  try simp only [List.map_cons, List.map_nil, List.getD_cons_zero, List.getD_cons_succ, List.eraseIdx_cons_zero, List.eraseIdx_cons_succ, List.getElem_cons_zero, List.getElem_cons_succ, List.take_succ_cons, List.take_zero, List.drop_succ_cons, List.drop_zero, List.cons_append, List.nil_append, List.append_eq] at O2
  clear O
  go_upto_region 7 with fail
  go_cut [9] from 45 to 50 (fun rv wx => ∃ R : Nat, rv = .pointer (some ⟨R, 0, none⟩) ∧ RoomAt w wx [] R k 0)
  case first =>
    have ML : ∀ W : World, (Instr.makeSlice 63 (.int .i64 2) (.int .i64 2)).run Tryz.prog W = .ok (.slice (some ⟨W.heap.size, 0, none⟩) 2 2) (W.alloc (.cells #[.pointer none, .pointer none] 37)) := make_two Tryz.underlying63 (i := _) rfl rfl rfl (by decide)
    have MR : ∀ W : World, (Instr.makeSlice 64 (.int .i64 2) (.int .i64 2)).run Tryz.prog W = .ok (.slice (some ⟨W.heap.size, 0, none⟩) 2 2) (W.alloc (.cells #[.pointer none, .pointer none] 90)) := make_two Tryz.underlying64 (i := _) rfl rfl rfl (by decide)
    go_region
    · have OA : Own w (w4.alloc (.cells #[.pointer none, .pointer none] 37)) (rowP w4.heap.size [.pointer none, .pointer none] :: dk (.pointer (some ⟨b, 0, none⟩)) (Dk.new k) :: xk (.pointer (some ⟨b2, 0, none⟩)) (Dk.new k) :: []) := O2.newRow 37 (.pointer none) (.pointer none)
      have OB : Own w ((w4.alloc (.cells #[.pointer none, .pointer none] 37)).alloc (.cells #[.pointer none, .pointer none] 90)) (rowX (w4.heap.size + 1) [.pointer none, .pointer none] :: rowP w4.heap.size [.pointer none, .pointer none] :: dk (.pointer (some ⟨b, 0, none⟩)) (Dk.new k) :: xk (.pointer (some ⟨b2, 0, none⟩)) (Dk.new k) :: []) := by
        have h := OA.newRow 90 (.pointer none) (.pointer none)
        rw [sizeA] at h
        exact h
      have OC : Own w (((w4.alloc (.cells #[.pointer none, .pointer none] 37)).alloc (.cells #[.pointer none, .pointer none] 90)).alloc (.cells (rcells b b2 w4.heap.size (w4.heap.size + 1)) 66)) (box (w4.heap.size + 1 + 1) (rcells b b2 w4.heap.size (w4.heap.size + 1)) 66 :: rowX (w4.heap.size + 1) [.pointer none, .pointer none] :: rowP w4.heap.size [.pointer none, .pointer none] :: dk (.pointer (some ⟨b, 0, none⟩)) (Dk.new k) :: xk (.pointer (some ⟨b2, 0, none⟩)) (Dk.new k) :: []) := by
        have h := OB.newBox (rcells b b2 w4.heap.size (w4.heap.size + 1)) 66
        rw [sizeA, sizeA] at h
        exact h
      have OD := (OC.selK 3 [0, 2, 1]).drew
      have H := Lib.hid (RoomAt.start k1 k40 OD)
      clear OA OB OC OD
      go_wp2
      go_meet
      exact ⟨_, rfl, H.out⟩
    · have OA : Own w (w4.alloc (.cells #[.pointer none, .pointer none] 90)) (rowX w4.heap.size [.pointer none, .pointer none] :: dk (.pointer (some ⟨b, 0, none⟩)) (Dk.new k) :: xk (.pointer (some ⟨b2, 0, none⟩)) (Dk.new k) :: []) := O2.newRow 90 (.pointer none) (.pointer none)
      have OB : Own w ((w4.alloc (.cells #[.pointer none, .pointer none] 90)).alloc (.cells #[.pointer none, .pointer none] 37)) (rowP (w4.heap.size + 1) [.pointer none, .pointer none] :: rowX w4.heap.size [.pointer none, .pointer none] :: dk (.pointer (some ⟨b, 0, none⟩)) (Dk.new k) :: xk (.pointer (some ⟨b2, 0, none⟩)) (Dk.new k) :: []) := by
        have h := OA.newRow 37 (.pointer none) (.pointer none)
        rw [sizeA] at h
        exact h
      have OC : Own w (((w4.alloc (.cells #[.pointer none, .pointer none] 90)).alloc (.cells #[.pointer none, .pointer none] 37)).alloc (.cells (rcells b b2 (w4.heap.size + 1) w4.heap.size) 66)) (box (w4.heap.size + 1 + 1) (rcells b b2 (w4.heap.size + 1) w4.heap.size) 66 :: rowP (w4.heap.size + 1) [.pointer none, .pointer none] :: rowX w4.heap.size [.pointer none, .pointer none] :: dk (.pointer (some ⟨b, 0, none⟩)) (Dk.new k) :: xk (.pointer (some ⟨b2, 0, none⟩)) (Dk.new k) :: []) := by
        have h := OB.newBox (rcells b b2 (w4.heap.size + 1) w4.heap.size) 66
        rw [sizeA, sizeA] at h
        exact h
      have OD := (OC.selK 3 [0, 1, 2]).drew
      have H := Lib.hid (RoomAt.start k1 k40 OD)
      clear OA OB OC OD
      go_wp2
      go_meet
      exact ⟨_, rfl, H.out⟩
  case rest =>
    obtain ⟨R, rfl, H⟩ := hcut
    clear O2
    have h100 := sumSt_len l
    have hN100 : N1 ≤ 100 := by have := HSUM.out; have := HN1.out; omega
    clear h100
    go_wp2_with fail
    go_loopw [10] (fun iv wx => ∃ i : Nat, iv = .int .i64 i ∧ i ≤ N1 ∧ RoomAt w wx [] R k (20 * i)) (fun iv _ => N1 - (intOf iv).toNat)
    case atStart => exact ⟨0, rfl, by omega, H⟩
    case round =>
      clear H
      obtain ⟨i, rfl, hi, H⟩ := hrel
      by_cases hlt : i < N1
      · have hb1 : (i : Int) < (N1 : Int) := by omega
        have hx : i < l.length := by rw [← HN1.out]; exact hlt
        obtain ⟨LLx, OL⟩ := H.own
        obtain ⟨g, off, e1, hc⟩ := (HL.out.keep OL.chg (by simp)).at hx
        subst e1
        have sw : Hid l[i].Wf := LW.out _ (List.getElem_mem hx)
        have sl : Hid (l[i].s.length < 3000) := by
          have h1 := HSUM.out
          have h2 := sumSt_mem (List.getElem_mem hx)
          unfold stN at h2
          unfold Hid
          omega
        have hs : Hid (SlR w (.slice l[i].ka l[i].keep.length l[i].kc) (l[i].keep.map (Value.int .i64)) G) := by
          obtain ⟨a', c', -, h3, -⟩ := HL.out
          exact h3 _ (List.getElem_mem hx)
        generalize l[i] = s at hc sw sl hs
        obtain ⟨c0, c1, c2, c3, c4, c5, -⟩ := hc
        have DO := does_own H k40 (by omega) (by omega) s sw.out sl.out hs.out
        clear H OL hx
        go_wp2_with fail
        refine DO.mono ?_
        clear DO c0 c1 c2 c3 c4 c5
        rintro _ wa ⟨rfl, H⟩
        have LK := roomlike_own H k40
        clear H
        go_wp2_with fail
        refine LK.mono ?_
        clear LK
        rintro _ wb ⟨rfl, H⟩
        go_wp2
        go_roundw
        case rel => exact ⟨i + 1, by go_num, by omega, H.mono (by omega)⟩
        case measure => simp [intOf]; omega
      · have hb1 : ¬ (i : Int) < (N1 : Int) := by omega
        obtain ⟨LLx, OL⟩ := H.own
        have O0 : Own w wr [] := ⟨OL.chg, ⟨[], rfl⟩⟩
        clear H OL
        go_wp2_with fail
        go_loopw [11] (fun iv wx => ∃ h : Int, iv = .int .i64 h ∧ -1 ≤ h ∧ h ≤ 3 ∧ Own w wx []) (fun iv _ => (3 - intOf iv).toNat)
        case atStart => exact ⟨-1, rfl, by omega, by omega, O0⟩
        case round =>
          clear O0
          obtain ⟨h, rfl, h1, h2, O⟩ := hrel
          by_cases hlt2 : h ≤ 2
          · have hb2 : ¬ 2 < h := by omega
            obtain ⟨za, zb, HA, HB⟩ := half_all k (by omega) h
            go_wp2_with fail
            refine (HA _).mono ?_
            rintro _ wa ⟨rfl, rfl⟩
            go_wp2_with fail
            refine (HB _).mono ?_
            rintro _ wa ⟨rfl, rfl⟩
            clear HA HB
            go_wp2
            go_roundw
            case rel => exact ⟨h + 1, by go_num, by omega, by omega, O⟩
            case measure => simp [intOf]; omega
          · have hb2 : 2 < h := by omega
            go_wp2_with fail
            refine (works12_own O).mono ?_
            clear O
            rintro e w2 ⟨rfl, O⟩
            go_wp2
            go_ret
            exact ⟨rfl, O.below⟩
end Go.Proofs.YtnlppcjfpmnahaaGreatDoor
