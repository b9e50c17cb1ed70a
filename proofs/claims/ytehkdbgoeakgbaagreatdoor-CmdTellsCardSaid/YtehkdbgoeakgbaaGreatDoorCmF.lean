/- cmd: slices.Equal of parameters; Same; mailroomref07.Same. -/
import Derived.Test.YtehkdbgoeakgbaaGreatDoorCmE
namespace Go.Proofs.YtehkdbgoeakgbaaGreatDoor
set_option linter.all false
open Go.RowKit Go.Shelf

set_option maxHeartbeats 2000000 in
theorem equal7_any (w : World) {aa ab : Option Addr} {n m ca cb : Nat} {xs ys : List Pm} (ha : PmR w (.slice aa n ca) xs) (hb : PmR w (.slice ab m cb) ys) (hl : n ≤ 1000000000) {b : Bool} (hr : decide (xs = ys) = b) :
    Calls Tryz.prog 32 #[.slice aa n ca, .slice ab m cb] w fun e w' => e = .returned (.bool b) ∧ ∃ n, w' = w.drewN n := by
  have A := Lib.hid ha
  have B := Lib.hid hb
  have R := Lib.hid hr
  have HN := Lib.hid ha.len
  have HM := Lib.hid hb.len
  clear ha hb hr
  by_cases hq : n = m
  rotate_left
  · have hq' : ((n : Int) != (m : Int)) = true := by simp; omega
    have fin : b = false := by
      rw [← R.out, decide_eq_false_iff_not]
      rintro rfl
      exact hq (HN.out.trans HM.out.symm)
    subst fin
    clear R HN HM
    go_enter Tryz.func32, Tryz.ntmps32
    go_wp2
    go_ret
    exact ⟨rfl, 0, rfl⟩
  · subst hq
    have hq' : ((n : Int) != (n : Int)) = false := by simp
    go_enter Tryz.func32, Tryz.ntmps32
    go_wp2_with fail
    go_loopw [13] (fun iv wr => ∃ k j : Nat, k ≤ n ∧ iv = .int .i64 k ∧ wr = w.drewN j ∧ Hid (xs.take k = ys.take k)) (fun iv _ => n - (intOf iv).toNat)
    case atStart => exact ⟨0, 0, by omega, rfl, rfl, rfl⟩
    case round =>
      obtain ⟨k, j, hk, rfl, rfl, HT⟩ := hrel
      by_cases hlt : k < n
      · have hx : k < xs.length := by rw [← HN.out]; exact hlt
        have hy : k < ys.length := by rw [← HM.out]; exact hlt
        have hb1 : (k : Int) < (n : Int) := by omega
        obtain ⟨g, off, rfl, c0, c1⟩ := A.out.at k hx
        obtain ⟨g', off', rfl, d0, d1⟩ := B.out.at k hy
        have EQ := pmEq_cmd xs[k] ys[k]
        have NX : Hid (xs[k] = ys[k] → xs.take (k + 1) = ys.take (k + 1)) := fun h => by
          rw [List.take_succ_eq_append_getElem hx, List.take_succ_eq_append_getElem hy, HT.out, h]
        have OFF : Hid (xs[k] ≠ ys[k] → b = false) := fun h => by
          rw [← R.out, decide_eq_false_iff_not]
          intro e
          apply h
          simp [e]
        have c0' : (w.drewN j).cell? ⟨g, off + k * 2, none⟩ = _ := c0
        have c1' : (w.drewN j).cell? ⟨g, off + k * 2 + 1, none⟩ = _ := c1
        have d0' : (w.drewN j).cell? ⟨g', off' + k * 2, none⟩ = _ := d0
        have d1' : (w.drewN j).cell? ⟨g', off' + k * 2 + 1, none⟩ = _ := d1
        generalize hW : w.drewN j = W at c0' c1' d0' d1' ⊢
        have HW := Lib.hid hW
        clear hW c0 c1 d0 d1
        by_cases he : xs[k] = ys[k]
        · have NX2 := Lib.hid (NX.out he)
          rw [decide_eq_true he] at EQ
          clear NX OFF he HT
          generalize xs[k] = f at c0' c1' EQ
          generalize ys[k] = f' at d0' d1' EQ
          clear hx hy
          go_wp2_with fail
          go_quiet (fail)
          go_wp2
          go_roundw
          case rel => exact ⟨k + 1, j + _, by omega, by go_num, by rw [← HW.out, World.drewN_drewN], NX2⟩
          case measure => simp [intOf]; omega
        · have fin := OFF.out he
          subst fin
          rw [decide_eq_false he] at EQ
          clear NX OFF he HT R
          generalize xs[k] = f at c0' c1' EQ
          generalize ys[k] = f' at d0' d1' EQ
          clear hx hy
          go_wp2_with fail
          go_quiet (fail)
          go_wp2
          go_ret
          exact ⟨rfl, j + _, by rw [← HW.out, World.drewN_drewN]⟩
      · obtain rfl : k = n := by omega
        have fin : b = true := by
          rw [← R.out, decide_eq_true_iff]
          have h := HT.out
          rw [List.take_of_length_le (by have := HN.out; omega), List.take_of_length_le (by have := HM.out; omega)] at h
          exact h
        subst fin
        clear R
        go_wp2
        go_ret
        exact ⟨rfl, j, rfl⟩
def sameCm (a b : Cm) : Bool := (a.verb == b.verb) && ((a.arg == b.arg) && decide (a.ps = b.ps))
theorem sameCm_iff (a b : Cm) : sameCm a b = true ↔ a = b := by
  obtain ⟨v, x, ps⟩ := a
  obtain ⟨v', x', ps'⟩ := b
  simp [sameCm]
theorem sameCm_refl (a : Cm) : sameCm a a = true := (sameCm_iff a a).2 rfl
set_option maxHeartbeats 2000000 in
theorem same7_own {w0 w : World} {L : List Piece} (O : Own w0 w L) (c d : Cm) {ac ad : Option Addr} {n m cc cd : Nat} (hl : n ≤ 1000000000)
    (RC : ∀ w', Own w0 w' L → PmR w' (.slice ac n cc) c.ps) (RD : ∀ w', Own w0 w' L → PmR w' (.slice ad m cd) d.ps) {b : Bool} (hb : sameCm c d = b) :
    Calls Tryz.prog 14 #[cmV c ac n cc, cmV d ad m cd] w fun e w' => e = .returned (.bool b) ∧ Own w0 w' L := by
  obtain ⟨v, x, ps⟩ := c
  obtain ⟨u, y, qs⟩ := d
  simp only at RC RD
  show Calls _ _ #[.agg #[.int .u8 v, .string ⟨x.toArray⟩, .slice ac n cc], .agg #[.int .u8 u, .string ⟨y.toArray⟩, .slice ad m cd]] w _
  have O1 := O.newBox #[.int .u8 v, .string ⟨x.toArray⟩, .slice ac n cc] 24
  have O2 := O1.newBox #[.int .u8 u, .string ⟨y.toArray⟩, .slice ad m cd] 24
  have c0 := (O2.pick 1).cell 0
  have c1 := (O2.pick 1).cell 1
  have c2 := (O2.pick 1).cell 2
  have d0 := O2.cell 0
  have d1 := O2.cell 1
  have d2 := O2.cell 2
  have HB : Hid (b = ((v == u) && ((x == y) && decide (ps = qs)))) := hb.symm
  have EQ := Lib.hid (fun w' (h : Own w0 w' L) => equal7_any w' (RC w' h) (RD w' h) hl (b := decide (ps = qs)) rfl)
  clear RC RD hb O O1
  by_cases h1 : v = u
  rotate_left
  · have h1' : ((v : Int) == (u : Int)) = false := by simp; omega
    obtain rfl : b = false := by rw [HB.out]; simp [h1]
    clear HB EQ h1
    go_enter Tryz.func14, Tryz.ntmps14
    go_wp2
    go_ret
    exact ⟨rfl, O2.drop.drop⟩
  subst h1
  have h1' : ((v : Int) == (v : Int)) = true := by simp
  by_cases h2 : x = y
  rotate_left
  · obtain rfl : b = false := by rw [HB.out]; simp [h2]
    clear HB EQ
    go_enter Tryz.func14, Tryz.ntmps14
    go_wp2
    go_ret
    exact ⟨rfl, O2.drop.drop⟩
  subst h2
  obtain rfl : b = decide (ps = qs) := by rw [HB.out]; simp
  generalize decide (ps = qs) = q at EQ
  clear HB
  go_enter Tryz.func14, Tryz.ntmps14
  go_wp2_with fail
  refine (EQ.out _ O2.drop.drop).mono ?_
  rintro e w1 ⟨rfl, j, rfl⟩
  go_wp2
  go_ret
  exact ⟨rfl, (O2.drop.drop).drewN j⟩
end Go.Proofs.YtehkdbgoeakgbaaGreatDoor
