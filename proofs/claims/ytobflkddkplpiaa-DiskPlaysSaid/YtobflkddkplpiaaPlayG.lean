/- mailroomlaw10.like. -/
import Derived.Test.YtobflkddkplpiaaPlayF
namespace Go.Proofs.Ytobflkddkplpiaa
set_option linter.all false
open Go.RowKit Go.Maps

theorem Own.numsStore {w0 w : World} {L : List Piece} {g m cap : Nat} {zs : List Int} (h : Own w0 w (nums (.slice (some ⟨g, 0, none⟩) m cap) zs :: L)) (k : Nat) (z : Int) :
    Own w0 (w.setCell ⟨g, k, none⟩ (.int .i64 z)) (nums (.slice (some ⟨g, 0, none⟩) m cap) (zs.set k z) :: L) := by
  have h' : Own w0 w (rowv 3 1 (.slice (some ⟨g, 0, none⟩) m cap) zs.length (zs.map (Value.int .i64)) :: L) := h
  have := h'.rowvStore k (.int .i64 z)
  have e : (zs.map (Value.int .i64)).set k (.int .i64 z) = (zs.set k z).map (Value.int .i64) := by rw [List.map_set]
  rw [e, show zs.length = (zs.set k z).length from by simp] at this
  exact this
set_option maxRecDepth 100000 in
set_option maxHeartbeats 1000000 in
theorem xdirty_box {w0 w : World} {L : List Piece} {m : Dk} {b : Nat} {aw an at0 : Option Addr} {cw cn ct : Nat} {f : Bool} {lf : Int}
    (U : Own w0 w (box b (xcells m aw cw an cn at0 ct f lf) 74 :: strs (.slice aw m.n cw) m.wasL :: strs (.slice an m.n cn) m.nowL :: rowv 4 1 (.slice at0 m.n ct) m.n (Bv (wetB m)) :: L)) (hn : m.n ≤ 1024) :
    Calls Try.prog 43 #[.pointer (some ⟨b, 0, none⟩)] w fun e w' => ∃ a cap, e = .returned (.slice a m.dirty.length cap) ∧ Own w0 w' (nums (.slice a m.dirty.length cap) m.dirty :: box b (xcells m aw cw an cn at0 ct f lf) 74 :: strs (.slice aw m.n cw) m.wasL :: strs (.slice an m.n cn) m.nowL :: rowv 4 1 (.slice at0 m.n ct) m.n (Bv (wetB m)) :: L) := by
  have hdd : m.dirty = dirtyTo m m.n := rfl
  have HD := Lib.hid hdd
  clear hdd
  go_enter Try.func43, Try.ntmps43
  go_wp2_with fail
  go_loopw [3, 4] (fun ov iv wr => ∃ (j : Nat) (a : Option Addr) (cap : Nat), ov = .slice a (dirtyTo m j).length cap ∧ iv = .int .i64 j ∧ j ≤ m.n ∧
      Own w0 wr (nums (.slice a (dirtyTo m j).length cap) (dirtyTo m j) :: box b (xcells m aw cw an cn at0 ct f lf) 74 :: strs (.slice aw m.n cw) m.wasL :: strs (.slice an m.n cn) m.nowL :: rowv 4 1 (.slice at0 m.n ct) m.n (Bv (wetB m)) :: L)) (fun _ iv _ => m.n - (intOf iv).toNat)
  case atStart => exact ⟨0, none, 0, rfl, rfl, by omega, U.nilNums⟩
  case round =>
    clear U
    obtain ⟨j, a, cap, rfl, rfl, hj, O⟩ := hrel
    have c2 := (O.pick 1).xAt.c2
    by_cases hlt : j < m.n
    · have hb1 : (j : Int) < (m.n : Int) := by omega
      obtain ⟨-, gt, e2, tj, -⟩ := (O.pick 4).rowvAt j (by simp [Bv, wetB_len]; exact hlt)
      subst e2
      have hv : (Bv (wetB m))[j]'(by simp [Bv, wetB_len]; exact hlt) = .bool (m.was (j : Int)).isSome := by simp [Bv, wetB]
      rw [hv] at tj
      clear hv
      have hs := dirtyTo_succ m j
      have hdl : (dirtyTo m j).length + 1 ≤ 100000000 := by have := dirtyTo_len m j; omega
      have HDL := Lib.hid hdl
      clear hdl
      rcases Bool.eq_false_or_eq_true (m.was (j : Int)).isSome with hw | hw
      · rw [hw] at tj hs
        rw [if_pos rfl] at hs
        have HS := Lib.hid hs
        clear hs hw
        go_wp2_with (at_builtin; refine wpList_append_numO rfl _ _ rfl (j : Int) O rfl rfl HDL.out ?_)
        intro v' w6 O6
        rw [← HS.out] at O6
        obtain ⟨a', cap', rfl⟩ := O6.numsShape
        clear O c2 tj
        go_wp2
        go_roundw
        case rel => exact ⟨j + 1, a', cap', rfl, by go_num, by omega, O6⟩
        case measure => simp [intOf]; omega
      · rw [hw] at tj hs
        rw [if_neg (by simp), List.append_nil] at hs
        have HS := Lib.hid hs
        clear hs hw
        rw [← HS.out] at O
        go_wp2
        go_roundw
        case rel => exact ⟨j + 1, a, cap, by rw [HS.out], by go_num, by omega, O⟩
        case measure => simp [intOf]; omega
    · have hb1 : ¬ (j : Int) < (m.n : Int) := by omega
      obtain rfl : j = m.n := by omega
      rw [← HD.out] at O ⊢
      go_wp2
      go_ret
      exact ⟨_, _, rfl, O⟩
set_option maxRecDepth 100000 in
set_option maxHeartbeats 4000000 in
theorem like_own {w0 w : World} {L : List Piece} {p y : Value} {m : Dk} {c : Nat} (O : Own w0 w (dk p m :: xk y m :: L)) (h : m.Fit c) (hc : c ≤ 9000) (all : Bool) :
    Calls Try.prog 30 #[p, y, .bool all] w fun e w' => e = .returned (.bool true) ∧ Own w0 w' (dk p m :: xk y m :: L) := by
  have hnn : m.n ≤ 1024 := h.n
  have HF := Lib.hid h
  have hdl := dirty_len (HF.out.small hc)
  have hops : m.ops ≤ 9000 := by have := h.ops; omega
  have HD : Hid (m.dirty.length ≤ maxLen) := Lib.hid (Nat.le_trans hdl (by decide))
  clear h
  go_enter Try.func30, Try.ntmps30
  go_wp2_with fail
  refine (dirty_dk O (HF.out.small hc) HF.out.ok.dom).mono ?_
  clear O
  rintro e w1 ⟨al, cl, rfl, O⟩
  have O1 : Own w0 w1 (dk p m :: xk y m :: nums (.slice al m.dirty.length cl) m.dirty :: L) := O.selK 3 [1, 2, 0]
  obtain ⟨b, aw, cw, an, cn, at0, ct, f, lf, hp, hr, U⟩ := (O1.pick 1).xkE
  subst hp
  have HR := Lib.hid hr
  have X1 : Own w0 w1.drew (box b (xcells m aw cw an cn at0 ct f lf) 74 :: strs (.slice aw m.n cw) m.wasL :: strs (.slice an m.n cn) m.nowL :: rowv 4 1 (.slice at0 m.n ct) m.n (Bv (wetB m)) :: dk p m :: nums (.slice al m.dirty.length cl) m.dirty :: L) := U.drew
  have kc1 : Hid (w1.drew.cell? ⟨b, 1, none⟩ = some (.slice an m.n cn) ∧ w1.drew.cell? ⟨b, 3, none⟩ = some (.int .i64 m.ops) ∧ w1.drew.cell? ⟨b, 6, none⟩ = some (.bool m.off)) := Lib.hid ⟨X1.xAt.c1, X1.xAt.c3, X1.xAt.c6⟩
  clear U O hr
  have i1 : ((!m.off) == m.off) = false := by cases m.off <;> rfl
  have D1 := O1.drew
  go_wp2_with fail
  go_region_held3 (fun w' => w'.cell? ⟨b, 1, none⟩ = some (.slice an m.n cn) ∧ w'.cell? ⟨b, 3, none⟩ = some (.int .i64 m.ops) ∧ w'.cell? ⟨b, 6, none⟩ = some (.bool m.off))
    (first
      | with_reducible exact kc1.out
      | with_reducible exact kc2.out
      | with_reducible exact kc3.out)
    (first
      | (go_at_call 12; (with_reducible refine (on_any D1).mono ?_); rintro e ws ⟨rfl, rfl⟩)
      | (go_at_call 26; (with_reducible refine (sectors_any D1).mono ?_); rintro e ws ⟨rfl, rfl⟩)
      | (go_at_call 24; (with_reducible refine (ops_any D1).mono ?_); rintro e ws ⟨rfl, rfl⟩)
      | (go_at_call 43; (with_reducible refine (xdirty_box X1 hnn).mono ?_); rintro e ws ⟨a2, cap2, rfl, X2⟩;
          (have X3 : Own w0 ws (nums (.slice al m.dirty.length cl) m.dirty :: nums (.slice a2 m.dirty.length cap2) m.dirty :: box b (xcells m aw cw an cn at0 ct f lf) 74 :: strs (.slice aw m.n cw) m.wasL :: strs (.slice an m.n cn) m.nowL :: rowv 4 1 (.slice at0 m.n ct) m.n (Bv (wetB m)) :: dk p m :: L) := X2.selK 7 [6, 0, 1, 2, 3, 4, 5]);
          (have kc2 : Hid (ws.cell? ⟨b, 1, none⟩ = some (.slice an m.n cn) ∧ ws.cell? ⟨b, 3, none⟩ = some (.int .i64 m.ops) ∧ ws.cell? ⟨b, 6, none⟩ = some (.bool m.off)) := Lib.hid ⟨(X2.pick 1).xAt.c1, (X2.pick 1).xAt.c3, (X2.pick 1).xAt.c6⟩))
      | (go_at_call 25; (with_reducible refine (ints_own X3 _ _ _ _ X2.numsSl HD.out HD.out true (decide_eq_true rfl)).mono ?_); rintro e ws2 ⟨rfl, X4⟩;
          (have kc3 : Hid (ws2.cell? ⟨b, 1, none⟩ = some (.slice an m.n cn) ∧ ws2.cell? ⟨b, 3, none⟩ = some (.int .i64 m.ops) ∧ ws2.cell? ⟨b, 6, none⟩ = some (.bool m.off)) := Lib.hid ⟨(X4.pick 2).xAt.c1, (X4.pick 2).xAt.c3, (X4.pick 2).xAt.c6⟩)))
  have O5 : Own w0 ws2 (nums (.slice al m.dirty.length cl) m.dirty :: dk p m :: xk (.pointer (some ⟨b, 0, none⟩)) m :: L) := (Own.xkI HR.out (X4.selK 7 [2, 3, 4, 5, 0, 6])).selK 3 [1, 2, 0]
  clear X1 X2 X3 X4 kc1 kc2 kc3 O1 D1 i1 HR
  go_wp2_with fail
  go_loopw [8] (fun iv wr => ∃ (k : Nat) (zs : List Int), iv = .int .i64 k ∧ k ≤ m.dirty.length ∧ zs.length = m.dirty.length ∧ Own w0 wr (nums (.slice al m.dirty.length cl) zs :: dk p m :: xk (.pointer (some ⟨b, 0, none⟩)) m :: L)) (fun iv _ => m.dirty.length - (intOf iv).toNat)
  case atStart => exact ⟨0, m.dirty, rfl, by omega, rfl, O5⟩
  case round =>
    clear O5
    obtain ⟨k, zs, rfl, hk, hz, O⟩ := hrel
    by_cases hlt : k < m.dirty.length
    · have hb1 : (k : Int) < (m.dirty.length : Int) := by omega
      obtain ⟨gl, e1, l0, f0⟩ := O.numsAt k (by omega)
      subst e1
      have O2 := O.numsStore k (-7)
      have hz2 : (zs.set k (-7)).length = m.dirty.length := by simp [hz]
      obtain ⟨zk, hzk⟩ : ∃ zk, zk = zs[k]'(by omega) := ⟨_, rfl⟩
      rw [← hzk] at l0
      have HZ2 := Lib.hid hz2
      clear hzk hz hz2 O
      go_wp2
      go_roundw
      case rel => exact ⟨k + 1, zs.set k (-7), by go_num, by omega, HZ2.out, O2⟩
      case measure => simp [intOf]; omega
    · have hb1 : ¬ (k : Int) < (m.dirty.length : Int) := by omega
      have O6 := O.drop
      clear O hz
      go_wp2_with fail
      go_loopw [9] (fun iv wr => ∃ (q : Nat), iv = .int .i64 ((q : Int) - 1) ∧ q ≤ m.n + 2 ∧ Own w0 wr (dk p m :: xk (.pointer (some ⟨b, 0, none⟩)) m :: L)) (fun iv _ => m.n + 2 - ((intOf iv) + 1).toNat)
      case atStart => exact ⟨0, rfl, by omega, O6⟩
      case round =>
        clear O6
        obtain ⟨q, rfl, hq, O⟩ := hrel
        obtain ⟨b', aw', cw', an', cn', at1, ct', f', lf', hp', hr', U⟩ := (O.pick 1).xkE
        simp only [Value.pointer.injEq, Option.some.injEq, Addr.mk.injEq, and_true] at hp'
        subst hp'
        have c1 := U.xAt.c1
        clear U hr'
        by_cases hqn : q ≤ m.n + 1
        · have hb2 : (q : Int) - 1 ≤ (m.n : Int) := by omega
          cases all
          · go_wp2
            go_ret
            exact ⟨rfl, O⟩
          · have hi64 : Hid (I64 ((q : Int) - 1)) := Lib.hid (WalkArith.wf_i64 (by omega))
            go_wp2_with fail
            refine (read_own O ((q : Int) - 1) hi64.out).mono ?_
            clear O c1
            rintro e w7 ⟨rfl, O⟩
            go_wp2_with fail
            refine (xread_own (O.pick 1) ((q : Int) - 1) hi64.out).mono ?_
            rintro e w8 ⟨rfl, rfl⟩
            obtain ⟨s, hs⟩ : ∃ s, s = (m.read ((q : Int) - 1)).1 := ⟨_, rfl⟩
            obtain ⟨er, her⟩ : ∃ er, er = (m.read ((q : Int) - 1)).2 := ⟨_, rfl⟩
            rw [← hs, ← her]
            clear hs her
            go_wp2
            go_roundw
            case rel => exact ⟨q + 1, by go_num, by omega, O⟩
            case measure => simp [intOf]; omega
        · have hb2 : ¬ (q : Int) - 1 ≤ (m.n : Int) := by omega
          go_wp2
          go_ret
          exact ⟨rfl, O⟩
end Go.Proofs.Ytobflkddkplpiaa
