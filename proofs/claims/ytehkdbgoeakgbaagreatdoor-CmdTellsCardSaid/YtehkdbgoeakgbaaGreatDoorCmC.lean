/- cmd: slices.ContainsFunc over bytes; param. -/
import Derived.Test.YtehkdbgoeakgbaaGreatDoorCmA
import Derived.Test.YtehkdbgoeakgbaaGreatDoorCmB
namespace Go.Proofs.YtehkdbgoeakgbaaGreatDoor
set_option linter.all false
open Go.RowKit

theorem c_is (c d : UInt8) (n : Int) (hn : (d.toNat : Int) = n) : ((c.toNat : Int) == n) = (c == d) := by
  rw [Bool.eq_iff_iff, beq_iff_eq, beq_iff_eq]
  constructor
  · intro h; apply UInt8.toNat_inj.1; omega
  · rintro rfl; exact hn
theorem pvC_lo {c : UInt8} (h : (c.toNat : Int) < 33) : pvC c = false := by unfold pvC; rw [decide_eq_false (by omega)]; rfl
theorem pvC_hi {c : UInt8} (h : 126 < (c.toNat : Int)) : pvC c = false := by unfold pvC; rw [decide_eq_false (by omega)]; rfl
theorem pvC_mid {c : UInt8} (h1 : ¬ (c.toNat : Int) < 33) (h2 : ¬ 126 < (c.toNat : Int)) : pvC c = !((c.toNat : Int) == 61) := by
  unfold pvC; rw [decide_eq_true (by omega), c_is c 61 61 rfl]; rfl
theorem pv_any (c : UInt8) (w : World) : Calls Tryz.prog 65 #[.int .u8 (c.toNat : Int)] w fun e w' => e = .returned (.bool (!pvC c)) ∧ w = w' := by
  by_cases h1 : (c.toNat : Int) < 33
  · rw [pvC_lo h1]
    go_enter Tryz.func65, Tryz.ntmps65
    go_wp2
    go_ret
    exact ⟨rfl, rfl⟩
  · by_cases h2 : 126 < (c.toNat : Int)
    · rw [pvC_hi h2]
      go_enter Tryz.func65, Tryz.ntmps65
      go_wp2
      go_ret
      exact ⟨rfl, rfl⟩
    · rw [pvC_mid h1 h2, Bool.not_not]
      go_enter Tryz.func65, Tryz.ntmps65
      go_wp2
      go_ret
      exact ⟨rfl, rfl⟩
/-- a test of bytes, handed over as a function that catches nothing -/
def TestB (cf : Nat) (f : UInt8 → Bool) : Prop := (∀ (c : UInt8) (w : World), Calls Tryz.prog cf #[.int .u8 (c.toNat : Int)] w fun e w' => e = .returned (.bool (f c)) ∧ w = w')
set_option maxHeartbeats 1000000 in
theorem indexB_own {cf : Nat} {f : UInt8 → Bool} (hf : TestB cf f) (eg : ∀ args w, (callFunc cf args).run Tryz.prog w = .ok (.enter cf args) w)
    {w0 w : World} {L : List Piece} {g : Nat} {l : List UInt8} (O : Own w0 w (bytes g l :: L)) (cap : Nat) (hl : l.length ≤ 1000000000) :
    Calls Tryz.prog 63 #[.slice (some ⟨g, 0, none⟩) l.length cap, .func (.func cf) #[] #[]] w
      fun e w' => (∃ i : Int, e = .returned (.int .i64 i) ∧ decide (0 ≤ i) = l.any f) ∧ w = w' := by
  have HB := fun k (h : k < l.length) => O.byteCell k h
  have HBH := Lib.hid HB
  clear HB O
  obtain ⟨N, hN⟩ : ∃ n, n = l.length := ⟨_, rfl⟩
  have HN := Lib.hid hN
  rw [← hN] at hl ⊢
  clear hN
  go_enter Tryz.func63, Tryz.ntmps63
  go_wp2_with fail
  go_loopw [8] (fun iv wr => ∃ k : Nat, k ≤ N ∧ iv = .int .i64 k ∧ Hid ((l.take k).any f = false) ∧ w = wr) (fun iv _ => N - (intOf iv).toNat)
  case atStart => exact ⟨0, by omega, rfl, rfl, rfl⟩
  case round =>
    obtain ⟨k, hk, rfl, HA, rfl⟩ := hrel
    by_cases hlt : k < N
    · have hb1 : (k : Int) < (N : Int) := by omega
      have hkl : k < l.length := by rw [← HN.out]; exact hlt
      have r1 := (HBH.out k hkl).1
      have NX : Hid ((l.take (k + 1)).any f = f l[k]) := by
        unfold Hid; rw [List.take_succ_eq_append_getElem hkl, List.any_append, HA.out]; simp
      have YES : Hid (f l[k] = true → l.any f = true) := fun h => List.any_eq_true.2 ⟨_, List.getElem_mem hkl, h⟩
      generalize l[k] = c at r1 NX YES
      clear hkl
      go_wp2_with fail
      refine (hf c _).mono ?_
      rintro e w1 ⟨rfl, rfl⟩
      cases hfc : f c
      · have NX2 : Hid ((l.take (k + 1)).any f = false) := NX.out.trans hfc
        clear NX YES hfc
        go_wp2
        go_roundw
        case rel => exact ⟨k + 1, by omega, by go_num, NX2, by trivial⟩
        case measure => simp [intOf]; omega
      · have Y := Lib.hid (YES.out hfc)
        clear NX YES hfc
        go_wp2
        go_ret
        exact ⟨⟨_, rfl, by rw [Y.out]; simp⟩, rfl⟩
    · obtain rfl : k = N := by omega
      have Y : Hid (l.any f = false) := by
        have := HA.out
        rwa [List.take_of_length_le (by have := HN.out; omega)] at this
      clear HA
      go_wp2
      go_ret
      exact ⟨⟨_, rfl, by rw [Y.out]; rfl⟩, rfl⟩
theorem hasB_own {cf : Nat} {f : UInt8 → Bool} (hf : TestB cf f) (eg : ∀ args w, (callFunc cf args).run Tryz.prog w = .ok (.enter cf args) w)
    {w0 w : World} {L : List Piece} {g : Nat} {l : List UInt8} (O : Own w0 w (bytes g l :: L)) (cap : Nat) (hl : l.length ≤ 1000000000) {b : Bool} (hb : l.any f = b) :
    Calls Tryz.prog 43 #[.slice (some ⟨g, 0, none⟩) l.length cap, .func (.func cf) #[] #[]] w
      fun e w' => e = .returned (.bool b) ∧ w = w' := by
  have IX := indexB_own hf eg O cap hl
  rw [hb] at IX
  clear hb O
  generalize l.length = N at IX hl ⊢
  go_enter Tryz.func43, Tryz.ntmps43
  go_wp2_with fail
  refine IX.mono ?_
  clear IX
  rintro e w1 ⟨⟨i, rfl, hi⟩, rfl⟩
  have HD := Lib.hid hi
  clear hi
  go_wp2
  go_ret
  refine ⟨?_, rfl⟩
  rw [← HD.out]; rfl
theorem pnB_short {s : List UInt8} (h : s.length < 1) : pnB s = false := by unfold pnB; rw [decide_eq_false (by omega)]; rfl
theorem pnB_long {s : List UInt8} (h : 32 < s.length) : pnB s = false := by unfold pnB; rw [decide_eq_false (by omega)]; rfl
theorem pnB_first {s : List UInt8} (h0 : 0 < s.length) (h : (s[0].toNat : Int) < 65 ∨ 90 < (s[0].toNat : Int)) : pnB s = false := by
  unfold pnB capB
  have : s.getD 0 0 = s[0] := by simp [h0]
  rw [this, decide_eq_false (p := 65 ≤ s[0].toNat ∧ s[0].toNat ≤ 90) (by omega)]
  simp
theorem pnB_rest {s : List UInt8} (h0 : 0 < s.length) (h32 : s.length ≤ 32) (h1 : 65 ≤ (s[0].toNat : Int)) (h2 : (s[0].toNat : Int) ≤ 90) : pnB s = s.all pnC := by
  unfold pnB capB
  have : s.getD 0 0 = s[0] := by simp [h0]
  rw [this, decide_eq_true (p := 65 ≤ s[0].toNat ∧ s[0].toNat ≤ 90) (by omega), decide_eq_true (by omega)]
  rfl
theorem pnC_yes {c : UInt8} (h : (65 ≤ (c.toNat : Int) ∧ (c.toNat : Int) ≤ 90) ∨ (48 ≤ (c.toNat : Int) ∧ (c.toNat : Int) ≤ 57)) : pnC c = true := by
  unfold pnC capB; rw [Bool.or_eq_true, decide_eq_true_iff, decide_eq_true_iff]; omega
theorem pnC_no {c : UInt8} (h : ((c.toNat : Int) < 65 ∨ 90 < (c.toNat : Int)) ∧ ((c.toNat : Int) < 48 ∨ 57 < (c.toNat : Int))) : pnC c = false := by
  unfold pnC capB; rw [decide_eq_false (by omega), decide_eq_false (by omega)]; rfl
theorem any_not (v : List UInt8) (f : UInt8 → Bool) : v.any (fun c => !f c) = !v.all f := by
  induction v with
  | nil => rfl
  | cons c v ih => simp [ih]
theorem pmB_no {s v : List UInt8} (h : pnB s = false) : pmB (s, v) = false := by unfold pmB; rw [h]; rfl
theorem pmB_yes {s v : List UInt8} (h : pnB s = true) : pmB (s, v) = v.all pvC := by unfold pmB; rw [h]; rfl
set_option maxRecDepth 100000 in
set_option maxHeartbeats 2000000 in
theorem param_own {w0 w : World} {L : List Piece} (O : Own w0 w L) (p : Pm) (hv : p.2.length ≤ 1000000000) {b : Bool} (hb : pmB p = b) :
    Calls Tryz.prog 47 #[pmV p] w fun e w' => e = .returned (.bool b) ∧ Own w0 w' L := by
  obtain ⟨s, v⟩ := p
  show Calls _ _ #[.agg #[.string ⟨s.toArray⟩, .string ⟨v.toArray⟩]] w _
  have O1 := O.newBox #[.string ⟨s.toArray⟩, .string ⟨v.toArray⟩] 48
  simp only at hv
  have HB := Lib.hid hb
  clear hb O
  have c0 := O1.cell 0
  have c1 := O1.cell 1
  by_cases h1 : s.length < 1
  · have h1' : (s.length : Int) < 1 := by omega
    obtain rfl : b = false := HB.out.symm.trans (pmB_no (pnB_short h1))
    clear HB h1
    go_enter Tryz.func47, Tryz.ntmps47
    go_wp2
    go_ret
    exact ⟨rfl, O1.drop⟩
  have h1' : ¬ (s.length : Int) < 1 := by omega
  by_cases h2 : 32 < s.length
  · have h2' : (32 : Int) < (s.length : Int) := by omega
    obtain rfl : b = false := HB.out.symm.trans (pmB_no (pnB_long h2))
    clear HB h1 h2
    go_enter Tryz.func47, Tryz.ntmps47
    go_wp2
    go_ret
    exact ⟨rfl, O1.drop⟩
  have h2' : ¬ (32 : Int) < (s.length : Int) := by omega
  have h0 : 0 < s.length := by omega
  have hs9 : s.length ≤ 1000 := by omega
  by_cases h3 : (s[0].toNat : Int) < 65
  · obtain rfl : b = false := HB.out.symm.trans (pmB_no (pnB_first h0 (.inl h3)))
    clear HB h1 h2
    go_enter Tryz.func47, Tryz.ntmps47
    go_wp2
    go_ret
    exact ⟨rfl, O1.drop⟩
  by_cases h4 : 90 < (s[0].toNat : Int)
  · obtain rfl : b = false := HB.out.symm.trans (pmB_no (pnB_first h0 (.inr h4)))
    clear HB h1 h2
    go_enter Tryz.func47, Tryz.ntmps47
    go_wp2
    go_ret
    exact ⟨rfl, O1.drop⟩
  have PN := Lib.hid (pnB_rest h0 (by omega) (by omega) (by omega))
  obtain ⟨g, cap, W1, hcv, O2⟩ := O1.toBytes s
  clear c0 c1
  have c0 := O1.cell 0
  go_enter Tryz.func47, Tryz.ntmps47
  go_wp2_with fail
  clear hcv c0 h1 h2 h1' h2' h3 h4 O1
  obtain ⟨B, hB⟩ : ∃ b, b = w.heap.size := ⟨_, rfl⟩
  rw [← hB] at O2 ⊢
  clear hB
  go_loopw [31] (fun iv wr => ∃ k : Nat, k ≤ s.length ∧ iv = .int .i64 k ∧ Hid ((s.take k).all pnC = true) ∧ Own w0 wr (bytes g s :: box B #[.string ⟨s.toArray⟩, .string ⟨v.toArray⟩] 48 :: L)) (fun iv _ => s.length - (intOf iv).toNat)
  case atStart => exact ⟨0, by omega, rfl, rfl, O2⟩
  case round =>
    clear O2
    obtain ⟨k, hk, rfl, HA, O⟩ := hrel
    by_cases hlt : k < s.length
    · have hb1 : (k : Int) < (s.length : Int) := by omega
      have r1 := (O.byteCell k hlt).1
      have NX : Hid ((s.take (k + 1)).all pnC = pnC s[k]) := by
        unfold Hid; rw [List.take_succ_eq_append_getElem hlt, List.all_append, HA.out]; simp
      have NO : Hid (pnC s[k] = false → b = false) := fun h => by
        rw [← HB.out]
        refine pmB_no (PN.out.trans ?_)
        rw [List.all_eq_false]
        exact ⟨_, List.getElem_mem hlt, by rw [h]; simp⟩
      generalize s[k] = c at r1 NX NO
      by_cases a1 : 65 ≤ (c.toNat : Int)
      · by_cases a2 : (c.toNat : Int) ≤ 90
        · have NX2 : Hid ((s.take (k + 1)).all pnC = true) := NX.out.trans (pnC_yes (.inl ⟨a1, a2⟩))
          clear NX NO
          go_wp2_with fail
          go_roundw
          case rel => exact ⟨k + 1, by omega, by go_num, NX2, O⟩
          case measure => simp [intOf]; omega
        · obtain rfl := NO.out (pnC_no (by omega))
          have a3 : 48 ≤ (c.toNat : Int) := by omega
          have a4 : ¬ (c.toNat : Int) ≤ 57 := by omega
          clear NX NO
          go_wp2_with fail
          go_ret
          exact ⟨rfl, O.drop.drop⟩
      · by_cases a3 : 48 ≤ (c.toNat : Int)
        · by_cases a4 : (c.toNat : Int) ≤ 57
          · have NX2 : Hid ((s.take (k + 1)).all pnC = true) := NX.out.trans (pnC_yes (.inr ⟨a3, a4⟩))
            clear NX NO
            go_wp2_with fail
            go_roundw
            case rel => exact ⟨k + 1, by omega, by go_num, NX2, O⟩
            case measure => simp [intOf]; omega
          · obtain rfl := NO.out (pnC_no (by omega))
            clear NX NO
            go_wp2_with fail
            go_ret
            exact ⟨rfl, O.drop.drop⟩
        · obtain rfl := NO.out (pnC_no (by omega))
          clear NX NO
          go_wp2_with fail
          go_ret
          exact ⟨rfl, O.drop.drop⟩
    · obtain rfl : k = s.length := by omega
      have R : Hid (v.any (fun c => !pvC c) = !b) := by
        have h := HA.out
        rw [List.take_length] at h
        unfold Hid
        rw [any_not, ← HB.out, pmB_yes (PN.out.trans h)]
      have c1 := (O.pick 1).cell 1
      obtain ⟨g2, cap2, W2, hcv2, O3⟩ := O.toBytes v
      have CF := hasB_own (cf := 65) pv_any (enters_of Tryz.func65 (by kernel_rfl) rfl) O3 cap2 hv R.out
      clear HA HB PN R
      go_wp2_with fail
      refine CF.mono ?_
      rintro e w3 ⟨rfl, rfl⟩
      clear CF hcv2 c1 O
      go_wp2
      go_ret
      exact ⟨by simp, O3.drop.drop.drop⟩
end Go.Proofs.YtehkdbgoeakgbaaGreatDoor
