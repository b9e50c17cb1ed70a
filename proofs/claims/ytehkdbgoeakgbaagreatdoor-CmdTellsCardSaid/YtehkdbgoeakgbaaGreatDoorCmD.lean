/- cmd: slices.ContainsFunc over parameters; params. -/
import Derived.Test.YtehkdbgoeakgbaaGreatDoorCmC
namespace Go.Proofs.YtehkdbgoeakgbaaGreatDoor
set_option linter.all false
open Go.RowKit

theorem params1_own {w0 w : World} {L : List Piece} {B : Nat} {p : Pm} (O : Own w0 w (box B #[.string ⟨p.1.toArray⟩, .string ⟨p.2.toArray⟩] 48 :: L)) (x : Pm) :
    Calls Tryz.prog 49 #[pmV x, .pointer (some ⟨B, 0, none⟩)] w fun e w' => e = .returned (.bool (x.1 == p.1)) ∧ Own w0 w' (box B #[.string ⟨p.1.toArray⟩, .string ⟨p.2.toArray⟩] 48 :: L) := by
  show Calls _ _ #[.agg #[.string ⟨x.1.toArray⟩, .string ⟨x.2.toArray⟩], _] w _
  have O1 := O.newBox #[.string ⟨x.1.toArray⟩, .string ⟨x.2.toArray⟩] 48
  have c0 := O1.cell 0
  have d0 := (O1.pick 1).cell 0
  go_enter Tryz.func49, Tryz.ntmps49
  go_wp2
  go_ret
  refine ⟨?_, O1.drop⟩
  simp [bytesEq]
set_option maxHeartbeats 1000000 in
theorem indexP_own {w0 w : World} {L : List Piece} {B : Nat} {p : Pm} (O : Own w0 w (box B #[.string ⟨p.1.toArray⟩, .string ⟨p.2.toArray⟩] 48 :: L)) {a : Option Addr} {n cap : Nat} {xs : List Pm} (hn : n = xs.length) (hl : n ≤ 1000000000)
    (RD : ∀ w', Own w0 w' L → PmR w' (.slice a n cap) xs) :
    Calls Tryz.prog 66 #[.slice a n cap, .func (.func 49) #[] #[.pointer (some ⟨B, 0, none⟩)]] w
      fun e w' => (∃ i : Int, e = .returned (.int .i64 i) ∧ decide (0 ≤ i) = xs.any fun x => x.1 == p.1) ∧ Own w0 w' (box B #[.string ⟨p.1.toArray⟩, .string ⟨p.2.toArray⟩] 48 :: L) := by
  have RDH := Lib.hid RD
  have HN := Lib.hid hn
  clear RD hn
  have eg : ∀ args w, (callFunc 49 args).run Tryz.prog w = .ok (.enter 49 args) w := enters_of Tryz.func49 (by kernel_rfl) rfl
  go_enter Tryz.func66, Tryz.ntmps66
  go_wp2_with fail
  go_loopw [8] (fun iv wr => ∃ k : Nat, k ≤ n ∧ iv = .int .i64 k ∧ Hid ((xs.take k).any (fun x => x.1 == p.1) = false) ∧ Own w0 wr (box B #[.string ⟨p.1.toArray⟩, .string ⟨p.2.toArray⟩] 48 :: L)) (fun iv _ => n - (intOf iv).toNat)
  case atStart => exact ⟨0, by omega, rfl, rfl, O⟩
  case round =>
    clear O
    obtain ⟨k, hk, rfl, HA, O⟩ := hrel
    by_cases hlt : k < n
    · have hb1 : (k : Int) < (n : Int) := by omega
      have hkl : k < xs.length := by rw [← HN.out]; exact hlt
      obtain ⟨g, off, rfl, d0, d1⟩ := (RDH.out _ O.drop).at k hkl
      have NX : Hid ((xs.take (k + 1)).any (fun x => x.1 == p.1) = (xs[k].1 == p.1)) := by
        unfold Hid; rw [List.take_succ_eq_append_getElem hkl, List.any_append, HA.out]; simp
      have YES : Hid ((xs[k].1 == p.1) = true → xs.any (fun x => x.1 == p.1) = true) := fun h => List.any_eq_true.2 ⟨_, List.getElem_mem hkl, h⟩
      generalize xs[k] = x at d0 d1 NX YES
      clear hkl
      have P1 := params1_own O x
      generalize (x.1 == p.1) = q at P1 NX YES
      unfold pmV at P1
      go_wp2_with fail
      refine P1.mono ?_
      clear P1 O
      rintro e w1 ⟨rfl, O⟩
      cases q
      · have NX2 := NX
        clear NX YES
        go_wp2
        go_roundw
        case rel => exact ⟨k + 1, by omega, by go_num, NX2, O⟩
        case measure => simp [intOf]; omega
      · have Y := Lib.hid (YES.out rfl)
        clear NX YES
        go_wp2
        go_ret
        exact ⟨⟨_, rfl, by rw [Y.out]; simp⟩, O⟩
    · obtain rfl : k = n := by omega
      have Y : Hid (xs.any (fun x => x.1 == p.1) = false) := by
        have := HA.out
        rwa [List.take_of_length_le (by have := HN.out; omega)] at this
      clear HA
      go_wp2
      go_ret
      exact ⟨⟨_, rfl, by rw [Y.out]; rfl⟩, O⟩
theorem hasP_own {w0 w : World} {L : List Piece} {B : Nat} {p : Pm} (O : Own w0 w (box B #[.string ⟨p.1.toArray⟩, .string ⟨p.2.toArray⟩] 48 :: L)) {a : Option Addr} {n cap : Nat} {xs : List Pm} (hn : n = xs.length) (hl : n ≤ 1000000000)
    (RD : ∀ w', Own w0 w' L → PmR w' (.slice a n cap) xs) :
    Calls Tryz.prog 48 #[.slice a n cap, .func (.func 49) #[] #[.pointer (some ⟨B, 0, none⟩)]] w
      fun e w' => e = .returned (.bool (xs.any fun x => x.1 == p.1)) ∧ Own w0 w' (box B #[.string ⟨p.1.toArray⟩, .string ⟨p.2.toArray⟩] 48 :: L) := by
  have IX := indexP_own O hn hl RD
  clear RD hn O
  generalize (xs.any fun x => x.1 == p.1) = b at IX ⊢
  go_enter Tryz.func48, Tryz.ntmps48
  go_wp2_with fail
  refine IX.mono ?_
  clear IX
  rintro e w1 ⟨⟨i, rfl, hi⟩, O⟩
  have HD := Lib.hid hi
  clear hi
  go_wp2
  go_ret
  refine ⟨?_, O⟩
  rw [← HD.out]; rfl
theorem pmsRun_nil (seen : List (List UInt8)) : pmsRun seen [] = true := rfl
theorem contains_any (xs : List Pm) (q : List UInt8) : (xs.map (·.1)).contains q = xs.any fun x => x.1 == q := by
  rw [List.contains_eq_any_beq, List.any_map]
  congr 1; funext x
  show (q == x.1) = (x.1 == q)
  rw [Bool.eq_iff_iff, beq_iff_eq, beq_iff_eq]; exact eq_comm
set_option maxHeartbeats 2000000 in
theorem params_own {w0 w : World} {L : List Piece} (O : Own w0 w L) {a : Option Addr} {n cap : Nat} {xs : List Pm} (hn : n = xs.length) (hl : n ≤ 1000000000) (hv : ∀ p ∈ xs, p.2.length ≤ 1000000000)
    (RD : ∀ w', Own w0 w' L → PmR w' (.slice a n cap) xs) {b : Bool} (hb : pmsB xs = b) :
    Calls Tryz.prog 27 #[.slice a n cap] w fun e w' => e = .returned (.bool b) ∧ Own w0 w' L := by
  have RDH := Lib.hid RD
  have HN := Lib.hid hn
  have HV := Lib.hid hv
  have HB : Hid (b = (pmsRun [] xs && decide ((n : Int) ≤ 8))) := by
    unfold Hid; rw [← hb, hn]; unfold pmsB; congr 1; exact decide_eq_decide.2 (by omega)
  have hcap := (RD _ O).cap
  clear RD hn hv hb
  go_enter Tryz.func27, Tryz.ntmps27
  go_wp2_with fail
  go_loopw [7] (fun iv wr => ∃ k : Nat, k ≤ n ∧ iv = .int .i64 k ∧ Hid (pmsRun [] xs = pmsRun ((xs.take k).map (·.1)) (xs.drop k)) ∧ Own w0 wr L) (fun iv _ => n - (intOf iv).toNat)
  case atStart => exact ⟨0, by omega, rfl, rfl, O⟩
  case round =>
    clear O
    obtain ⟨k, hk, rfl, HA, O⟩ := hrel
    by_cases hlt : k < n
    · have hb1 : (k : Int) < (n : Int) := by omega
      have hkl : k < xs.length := by rw [← HN.out]; exact hlt
      obtain ⟨g, off, rfl, d0, d1⟩ := (RDH.out _ O).at k hkl
      have ST : Hid (pmsRun [] xs = (pmB xs[k] && (!((xs.take k).any fun x => x.1 == xs[k].1) && pmsRun ((xs.take (k + 1)).map (·.1)) (xs.drop (k + 1))))) := by
        unfold Hid
        rw [HA.out, List.drop_eq_getElem_cons hkl, List.take_succ_eq_append_getElem hkl, List.map_append, ← contains_any]
        rfl
      have hvk := HV.out _ (List.getElem_mem hkl)
      have TKL : Hid (k = (xs.take k).length) := by unfold Hid; rw [List.length_take]; omega
      generalize xs[k] = p at d0 d1 ST hvk
      clear hkl
      have O1 := O.newBox #[.string ⟨p.1.toArray⟩, .string ⟨p.2.toArray⟩] 48
      obtain ⟨q1, hq1⟩ : ∃ q, pmB p = q := ⟨_, rfl⟩
      have P1 := param_own O1 p hvk hq1
      rw [hq1] at ST
      clear hq1
      unfold pmV at P1
      have i2 : k ≤ cap := by omega
      have e0 := O1.cell 0
      have e1 := O1.cell 1
      obtain ⟨B, hB⟩ : ∃ b, b = wr.heap.size := ⟨_, rfl⟩
      go_wp2_with fail
      refine P1.mono ?_
      clear P1 O e0 e1
      rw [← hB] at O1 ⊢
      rintro e w1 ⟨rfl, O2⟩
      clear O1 hB
      cases q1
      · have fin : b = false := by rw [HB.out, ST.out]; rfl
        subst fin
        clear ST HA HB
        go_wp2
        go_ret
        exact ⟨rfl, O2.drop⟩
      · have HP := hasP_own O2 (cap := cap) TKL.out (by omega) (fun w' h => (RDH.out w' h).take k (by omega))
        have ST2 : Hid (pmsRun [] xs = (!((xs.take k).any fun x => x.1 == p.1) && pmsRun ((xs.take (k + 1)).map (·.1)) (xs.drop (k + 1)))) := ST.out
        clear ST HA
        generalize ((xs.take k).any fun x => x.1 == p.1) = q2 at HP ST2
        go_wp2_with fail
        refine HP.mono ?_
        clear HP O2
        rintro e w2 ⟨rfl, O2⟩
        cases q2
        · have ST3 : Hid (pmsRun [] xs = pmsRun ((xs.take (k + 1)).map (·.1)) (xs.drop (k + 1))) := ST2.out
          clear ST2
          go_wp2
          go_roundw
          case rel => exact ⟨k + 1, by omega, by go_num, ST3, O2.drop⟩
          case measure => simp [intOf]; omega
        · have fin : b = false := by rw [HB.out, ST2.out]; rfl
          subst fin
          clear ST2 HB
          go_wp2
          go_ret
          exact ⟨rfl, O2.drop⟩
    · obtain rfl : k = n := by omega
      have fin : Hid (b = decide ((k : Int) ≤ 8)) := by
        unfold Hid
        rw [HB.out, HA.out, List.drop_of_length_le (by have := HN.out; omega)]
        rfl
      clear HA HB
      go_wp2
      go_ret
      exact ⟨by rw [fin.out]; rfl, O⟩
end Go.Proofs.YtehkdbgoeakgbaaGreatDoor
