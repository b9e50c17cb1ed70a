/- mailroomref07: Same, May. -/
import Derived.Test.YtehkdbgoeakgbaaGreatDoorCmS
import Derived.Test.YtehkdbgoeakgbaaGreatDoorCmF
import Derived.Test.YtehkdbgoeakgbaaGreatDoorCmBc
namespace Go.Proofs.YtehkdbgoeakgbaaGreatDoor
set_option linter.all false
open Go.RowKit Go.Shelf

set_option maxRecDepth 100000 in
set_option maxHeartbeats 4000000 in
theorem rsame7_own {w0 w : World} {L : List Piece} (O : Own w0 w L) (c d : Cm) {ac ad : Option Addr} {n m cc cd : Nat} (hl : n ≤ 1000000000)
    (RC : ∀ w', Own w0 w' L → PmR w' (.slice ac n cc) c.ps) (RD : ∀ w', Own w0 w' L → PmR w' (.slice ad m cd) d.ps) {b : Bool} (hb : sameCm c d = b) :
    Calls Tryz.prog 15 #[cmV c ac n cc, cmV d ad m cd] w fun e w' => e = .returned (.bool b) ∧ Own w0 w' L := by
  obtain ⟨v, x, ps⟩ := c
  obtain ⟨u, y, qs⟩ := d
  simp only at RC RD
  show Calls _ _ #[.agg #[.int .u8 v, .string ⟨x.toArray⟩, .slice ac n cc], .agg #[.int .u8 u, .string ⟨y.toArray⟩, .slice ad m cd]] w _
  have O1 := O.newBox #[.int .u8 v, .string ⟨x.toArray⟩, .slice ac n cc] 30
  have O2 := O1.newBox #[.int .u8 u, .string ⟨y.toArray⟩, .slice ad m cd] 30
  have c0 := (O2.pick 1).cell 0
  have c1 := (O2.pick 1).cell 1
  have c2 := (O2.pick 1).cell 2
  have d0 := O2.cell 0
  have d1 := O2.cell 1
  have d2 := O2.cell 2
  have HB : Hid (b = ((v == u) && ((x == y) && decide (ps = qs)))) := hb.symm
  have RCH := Lib.hid RC
  have RDH := Lib.hid RD
  have HN := Lib.hid (RC _ O).len
  have HM := Lib.hid (RD _ O).len
  clear RC RD hb O O1
  by_cases h1 : v = u
  rotate_left
  · have h1' : ((v : Int) != (u : Int)) = true := by simp; omega
    obtain rfl : b = false := by rw [HB.out]; simp [h1]
    clear HB h1
    go_enter Tryz.func15, Tryz.ntmps15
    go_wp2
    go_ret
    exact ⟨rfl, O2.drop.drop⟩
  subst h1
  have h1' : ((v : Int) != (v : Int)) = false := by simp
  by_cases h2 : x = y
  rotate_left
  · obtain rfl : b = false := by rw [HB.out]; simp [h2]
    have h2' : (x != y) = true := by simp [h2]
    have h2'' : (x == y) = false := by simp [h2]
    clear HB
    go_enter Tryz.func15, Tryz.ntmps15
    go_wp2
    go_ret
    exact ⟨rfl, O2.drop.drop⟩
  subst h2
  have HB2 : Hid (b = decide (ps = qs)) := by unfold Hid; rw [HB.out]; simp
  clear HB
  by_cases h3 : n = m
  rotate_left
  · have h3' : ((n : Int) != (m : Int)) = true := by simp; omega
    have fin : b = false := by
      rw [HB2.out, decide_eq_false_iff_not]
      rintro rfl
      exact h3 (HN.out.trans HM.out.symm)
    subst fin
    clear HB2 h3
    go_enter Tryz.func15, Tryz.ntmps15
    go_wp2
    go_ret
    exact ⟨rfl, O2.drop.drop⟩
  subst h3
  have h3' : ((n : Int) != (n : Int)) = false := by simp
  obtain ⟨AB, hAB⟩ : ∃ q, q = w.heap.size := ⟨_, rfl⟩
  obtain ⟨BB, hBB⟩ : ∃ q, q = w.heap.size + 1 := ⟨_, rfl⟩
  go_enter Tryz.func15, Tryz.ntmps15
  go_wp2_with fail
  rw [show (w.alloc (.cells #[.int .u8 v, .string ⟨x.toArray⟩, .slice ac n cc] 30)).heap.size = BB by rw [hBB]; simp, ← hAB] at O2
  rw [← hBB, ← hAB]
  clear c0 c1 c2 d0 d1 d2 hAB hBB
  go_loopw [5] (fun iv wr => ∃ k : Nat, k ≤ n ∧ iv = .int .i64 k ∧ Hid (ps.take k = qs.take k) ∧ Own w0 wr (box BB #[.int .u8 v, .string ⟨x.toArray⟩, .slice ad n cd] 30 :: box AB #[.int .u8 v, .string ⟨x.toArray⟩, .slice ac n cc] 30 :: L)) (fun iv _ => n - (intOf iv).toNat)
  case atStart => exact ⟨0, by omega, rfl, rfl, O2⟩
  case round =>
    clear O2
    obtain ⟨k, hk, rfl, HT, O⟩ := hrel
    have c2 := (O.pick 1).cell 2
    have d2 := O.cell 2
    by_cases hlt : k < n
    · have hx : k < ps.length := by rw [← HN.out]; exact hlt
      have hy : k < qs.length := by rw [← HM.out]; exact hlt
      have hb1 : (k : Int) < (n : Int) := by omega
      obtain ⟨g, off, rfl, p0, p1⟩ := (RCH.out _ O.drop.drop).at k hx
      obtain ⟨g', off', rfl, q0, q1⟩ := (RDH.out _ O.drop.drop).at k hy
      have EQ := pmEq_ref ps[k] qs[k]
      have NX : Hid (ps[k] = qs[k] → ps.take (k + 1) = qs.take (k + 1)) := fun h => by
        rw [List.take_succ_eq_append_getElem hx, List.take_succ_eq_append_getElem hy, HT.out, h]
      have OFF : Hid (ps[k] ≠ qs[k] → b = false) := fun h => by
        rw [HB2.out, decide_eq_false_iff_not]
        intro e
        apply h
        simp [e]
      by_cases he : ps[k] = qs[k]
      · have NX2 := Lib.hid (NX.out he)
        rw [decide_eq_true he] at EQ
        clear NX OFF he HT
        generalize ps[k] = f at p0 p1 EQ
        generalize qs[k] = f' at q0 q1 EQ
        clear hx hy
        go_wp2_with fail
        go_quiet (fail)
        go_wp2
        go_roundw
        case rel => exact ⟨k + 1, by omega, by go_num, NX2, O.drewN _⟩
        case measure => simp [intOf]; omega
      · have fin := OFF.out he
        subst fin
        rw [decide_eq_false he] at EQ
        clear NX OFF he HT HB2
        generalize ps[k] = f at p0 p1 EQ
        generalize qs[k] = f' at q0 q1 EQ
        clear hx hy
        go_wp2_with fail
        go_quiet (fail)
        go_wp2
        go_ret
        exact ⟨rfl, (O.drop.drop).drewN _⟩
    · obtain rfl : k = n := by omega
      have fin : b = true := by
        rw [HB2.out, decide_eq_true_iff]
        have h := HT.out
        rw [List.take_of_length_le (by have := HN.out; omega), List.take_of_length_le (by have := HM.out; omega)] at h
        exact h
      subst fin
      clear HB2
      go_wp2
      go_ret
      exact ⟨rfl, O.drop.drop⟩
theorem may_run {c : Cm} (h : pmsRun [] c.ps = false) : mayCm c = false := by
  cases hb : mayCm c with
  | false => rfl
  | true =>
    exfalso
    by_cases q : c.verb = 3 ∨ c.verb = 4
    · unfold mayCm at hb
      rcases q with e | e <;> (rw [e] at hb; simp only [Bool.and_eq_true] at hb; have h2 := hb.2; unfold pmsB at h2; rw [h] at h2; cases h2)
    · have := may_plain hb q
      rw [this] at h; cases h
theorem cm_long {c : Cm} (h : 8 < c.ps.length) : mayCm c = false := by
  cases hb : mayCm c with
  | false => rfl
  | true =>
    exfalso
    by_cases q : c.verb = 3 ∨ c.verb = 4
    · unfold mayCm at hb
      rcases q with e | e <;> (rw [e] at hb; simp only [Bool.and_eq_true] at hb; have h2 := hb.2; unfold pmsB at h2; rw [Bool.and_eq_true, decide_eq_true_eq] at h2; omega)
    · have := may_plain hb q
      rw [this] at h; simp at h
/-- what is left to test behind the parameters -/
theorem may_rest {v : Nat} {x : List UInt8} {ps : List Pm} (hv : 1 ≤ v ∧ v ≤ 6) (h8 : ps.length ≤ 8) (hr : pmsRun [] ps = true) (h0 : (v = 3 ∨ v = 4) ∨ ps = []) :
    mayCm ⟨v, x, ps⟩ = if v = 1 then may x else if v = 4 then parseB x else if v = 3 then (x.isEmpty || parseB x) else x.isEmpty := by
  have hp : pmsB ps = true := by unfold pmsB; rw [hr, decide_eq_true h8]; rfl
  obtain ⟨h1, h6⟩ := hv
  match v, h1, h6 with
  | 1, _, _ | 2, _, _ | 5, _, _ | 6, _, _ =>
    have : ps = [] := by simpa using h0
    subst this
    simp [mayCm]
  | 3, _, _ | 4, _, _ => simp [mayCm, hp]
end Go.Proofs.YtehkdbgoeakgbaaGreatDoor
