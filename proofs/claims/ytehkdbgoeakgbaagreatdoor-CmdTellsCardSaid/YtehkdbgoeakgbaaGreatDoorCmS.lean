/- mailroomref07: great, Great, MayParam. -/
import Derived.Test.YtehkdbgoeakgbaaGreatDoorCmG
namespace Go.Proofs.YtehkdbgoeakgbaaGreatDoor
set_option linter.all false
open Go.RowKit Go.Shelf

theorem rgreat_any (c : UInt8) (w : World) : Calls Tryz.prog 61 #[.int .u8 (c.toNat : Int)] w fun e w' => e = .returned (.int .u8 ((upC c).toNat : Int)) ∧ w = w' := by
  by_cases c1 : 97 ≤ (c.toNat : Int)
  · by_cases c2 : (c.toNat : Int) ≤ 122
    · have LG := Lib.hid (upC_small c1 c2)
      have s1 : IntKind.u8.wrap ((c.toNat : Int) - 32) = (c.toNat : Int) - 32 := IntWalk.u8_in _ (by omega)
      go_enter Tryz.func61, Tryz.ntmps61
      go_wp2
      go_ret
      refine ⟨?_, rfl⟩
      rw [LG.out]
      have : (c.toNat : Int) - 97 + 65 = (c.toNat : Int) - 32 := by omega
      rw [this]; rfl
    · rw [upC_not (by omega)]
      go_enter Tryz.func61, Tryz.ntmps61
      go_wp2
      go_ret
      exact ⟨rfl, rfl⟩
  · rw [upC_not (by omega)]
    go_enter Tryz.func61, Tryz.ntmps61
    go_wp2
    go_ret
    exact ⟨rfl, rfl⟩
set_option maxHeartbeats 1000000 in
theorem rGreat_own {w0 w : World} {L : List Piece} (O : Own w0 w L) (s : List UInt8) (hs : s.length ≤ 1000000000) :
    Calls Tryz.prog 38 #[.string ⟨s.toArray⟩] w fun e w' => e = .returned (.string ⟨(upL s).toArray⟩) ∧ Own w0 w' L := by
  obtain ⟨g, cap, W1, hcv, O1⟩ := O.toBytes s
  go_enter Tryz.func38, Tryz.ntmps38
  go_wp2_with fail
  go_loopw [4] (fun iv wr => ∃ k : Nat, k ≤ s.length ∧ iv = .int .i64 k ∧ Own w0 wr (bytes g (upK s k) :: L)) (fun iv _ => s.length - (intOf iv).toNat)
  case atStart => exact ⟨0, by omega, rfl, O1⟩
  case round =>
    clear O O1 hcv
    obtain ⟨k, hk, rfl, O⟩ := hrel
    by_cases hlt : k < s.length
    · have hb1 : (k : Int) < (s.length : Int) := by omega
      obtain ⟨r1, r2⟩ := O.byteCell k (by rw [upK_len]; exact hlt)
      rw [upK_at hlt] at r1
      have ST := Lib.hid (upK_succ hlt)
      have RG := Lib.hid (fun w => rgreat_any s[k] w)
      generalize s[k] = c at r1 ST RG
      go_wp2_with fail
      refine (RG.out _).mono ?_
      rintro e w1 ⟨rfl, rfl⟩
      go_wp2_with fail
      go_roundw
      case rel => exact ⟨k + 1, by omega, by go_num, by rw [ST.out]; exact O.setByte k _⟩
      case measure => simp [intOf]; omega
    · obtain rfl : k = s.length := by omega
      have hcv := O.fromBytes cap
      rw [upK_len, upK_all] at hcv
      go_wp2
      go_ret
      exact ⟨rfl, O.drop⟩
theorem pnB_at {s : List UInt8} {k : Nat} (h : k < s.length) (h0 : s.length ≤ 32) (hb : (if k = 0 then capB s[k] else pnC s[k]) = false) : pnB s = false := by
  unfold pnB
  split at hb
  · rename_i e
    subst e
    have : s.getD 0 0 = s[0] := by simp [h]
    rw [this, hb]; simp
  · have : s.all pnC = false := List.all_eq_false.2 ⟨_, List.getElem_mem h, by rw [hb]; simp⟩
    rw [this]; simp
theorem pnB_all {s : List UInt8} (h1 : 1 ≤ s.length) (h32 : s.length ≤ 32) (h : ∀ k (hk : k < s.length), (if k = 0 then capB s[k] else pnC s[k]) = true) : pnB s = true := by
  unfold pnB
  rw [decide_eq_true (by omega), Bool.true_and, Bool.and_eq_true]
  have e0 : s.getD 0 0 = s[0] := by simp [show 0 < s.length by omega]
  refine ⟨by rw [e0]; simpa using h 0 (by omega), ?_⟩
  rw [List.all_eq_true]
  intro c hc
  obtain ⟨k, hk, rfl⟩ := List.mem_iff_getElem.1 hc
  have := h k hk
  by_cases q : k = 0
  · subst q
    rw [if_pos rfl] at this
    unfold pnC; rw [this]; rfl
  · rwa [if_neg q] at this
theorem capB_is {c : UInt8} : capB c = decide (65 ≤ (c.toNat : Int) ∧ (c.toNat : Int) ≤ 90) := by unfold capB; exact decide_eq_decide.2 (by omega)
/-- may the k-th byte of a name be? -/
def pkC (k : Nat) (c : UInt8) : Bool := if k = 0 then capB c else pnC c
theorem pkC_yes {k : Nat} {c : UInt8} (h : (65 ≤ (c.toNat : Int) ∧ (c.toNat : Int) ≤ 90) ∨ (0 < k ∧ 48 ≤ (c.toNat : Int) ∧ (c.toNat : Int) ≤ 57)) : pkC k c = true := by
  unfold pkC
  split
  · rw [capB_is, decide_eq_true_iff]; omega
  · exact pnC_yes (by omega)
theorem pkC_no {k : Nat} {c : UInt8} (h : ((c.toNat : Int) < 65 ∨ 90 < (c.toNat : Int)) ∧ (k = 0 ∨ (c.toNat : Int) < 48 ∨ 57 < (c.toNat : Int))) : pkC k c = false := by
  unfold pkC
  split
  · rw [capB_is, decide_eq_false_iff_not]; omega
  · exact pnC_no (by omega)
set_option maxRecDepth 100000 in
set_option maxHeartbeats 4000000 in
theorem rparam_own {w0 w : World} {L : List Piece} (O : Own w0 w L) (p : Pm) (hv : p.2.length ≤ 1000000000) {b : Bool} (hb : pmB p = b) :
    Calls Tryz.prog 29 #[pmV p] w fun e w' => e = .returned (.bool b) ∧ Own w0 w' L := by
  obtain ⟨s, v⟩ := p
  show Calls _ _ #[.agg #[.string ⟨s.toArray⟩, .string ⟨v.toArray⟩]] w _
  have O1 := O.newBox #[.string ⟨s.toArray⟩, .string ⟨v.toArray⟩] 57
  simp only at hv
  have HB := Lib.hid hb
  clear hb O
  have c0 := O1.cell 0
  have c1 := O1.cell 1
  by_cases h1 : s.length < 1
  · have h1' : (s.length : Int) < 1 := by omega
    obtain rfl : b = false := HB.out.symm.trans (pmB_no (pnB_short h1))
    clear HB h1
    go_enter Tryz.func29, Tryz.ntmps29
    go_wp2
    go_ret
    exact ⟨rfl, O1.drop⟩
  have h1' : ¬ (s.length : Int) < 1 := by omega
  by_cases h2 : 32 < s.length
  · have h2' : (32 : Int) < (s.length : Int) := by omega
    obtain rfl : b = false := HB.out.symm.trans (pmB_no (pnB_long h2))
    clear HB h1 h2
    go_enter Tryz.func29, Tryz.ntmps29
    go_wp2
    go_ret
    exact ⟨rfl, O1.drop⟩
  have h2' : ¬ (32 : Int) < (s.length : Int) := by omega
  have hs9 : s.length ≤ 32 := by omega
  have hs1 : 1 ≤ s.length := by omega
  have PALL := Lib.hid (fun h => pnB_all hs1 hs9 h)
  have PAT := Lib.hid (fun k hk h => pnB_at (s := s) (k := k) hk hs9 h)
  obtain ⟨B, hB⟩ : ∃ b, b = w.heap.size := ⟨_, rfl⟩
  go_enter Tryz.func29, Tryz.ntmps29
  go_wp2_with fail
  clear c0 c1 h1 h2 h1' h2'
  rw [← hB] at O1 ⊢
  clear hB
  go_loopw [3] (fun iv wr => ∃ k : Nat, k ≤ s.length ∧ iv = .int .i64 k ∧ Hid (∀ j (hj : j < s.length), j < k → pkC j s[j] = true) ∧ Own w0 wr (box B #[.string ⟨s.toArray⟩, .string ⟨v.toArray⟩] 57 :: L)) (fun iv _ => s.length - (intOf iv).toNat)
  case atStart => exact ⟨0, by omega, rfl, (show Hid _ from fun j hj h => by omega), O1⟩
  case round =>
    clear O1
    obtain ⟨k, hk, rfl, HA, O⟩ := hrel
    have c0 := O.cell 0
    have c1 := O.cell 1
    by_cases hlt : k < s.length
    · have hb1 : (k : Int) < (s.length : Int) := by omega
      have NX : Hid (pkC k s[k] = true → ∀ j (hj : j < s.length), j < k + 1 → pkC j s[j] = true) := fun h j hj hjk => by
        rcases Nat.lt_or_ge j k with q | q
        · exact HA.out j hj q
        · obtain rfl : j = k := by omega
          exact h
      have NO : Hid (pkC k s[k] = false → b = false) := fun h => by
        rw [← HB.out]
        exact pmB_no (PAT.out k hlt h)
      by_cases a1 : 65 ≤ (s[k].toNat : Int)
      · by_cases a2 : (s[k].toNat : Int) ≤ 90
        · have NX2 := Lib.hid (NX.out (pkC_yes (.inl ⟨a1, a2⟩)))
          clear NX NO HA
          go_wp2_with fail
          go_roundw
          case rel => exact ⟨k + 1, by omega, by go_num, NX2, O⟩
          case measure => simp [intOf]; omega
        · obtain rfl := NO.out (pkC_no (by omega))
          have a3 : 48 ≤ (s[k].toNat : Int) := by omega
          have a4 : ¬ (s[k].toNat : Int) ≤ 57 := by omega
          clear NX NO
          by_cases k0 : (0 : Int) < (k : Int)
          · go_wp2_with fail
            go_ret
            exact ⟨rfl, O.drop⟩
          · go_wp2_with fail
            go_ret
            exact ⟨rfl, O.drop⟩
      · by_cases k0 : (0 : Int) < (k : Int)
        · by_cases a3 : 48 ≤ (s[k].toNat : Int)
          · by_cases a4 : (s[k].toNat : Int) ≤ 57
            · have NX2 := Lib.hid (NX.out (pkC_yes (.inr ⟨by omega, a3, a4⟩)))
              clear NX NO HA
              go_wp2_with fail
              go_roundw
              case rel => exact ⟨k + 1, by omega, by go_num, NX2, O⟩
              case measure => simp [intOf]; omega
            · obtain rfl := NO.out (pkC_no (by omega))
              clear NX NO
              go_wp2_with fail
              go_ret
              exact ⟨rfl, O.drop⟩
          · obtain rfl := NO.out (pkC_no (by omega))
            clear NX NO
            go_wp2_with fail
            go_ret
            exact ⟨rfl, O.drop⟩
        · obtain rfl := NO.out (pkC_no (by omega))
          clear NX NO
          go_wp2_with fail
          go_ret
          exact ⟨rfl, O.drop⟩
    · obtain rfl : k = s.length := by omega
      have PN : Hid (pmB (s, v) = v.all pvC) := pmB_yes (PALL.out (fun j hj => HA.out j hj hj))
      clear HA PALL PAT
      go_wp2_with fail
      clear c0 c1
      go_loopw [5] (fun iv wr => ∃ j : Nat, j ≤ v.length ∧ iv = .int .i64 j ∧ Hid ((v.take j).all pvC = true) ∧ Own w0 wr (box B #[.string ⟨s.toArray⟩, .string ⟨v.toArray⟩] 57 :: L)) (fun iv _ => v.length - (intOf iv).toNat)
      case atStart => exact ⟨0, by omega, rfl, rfl, O⟩
      case round =>
        clear O
        obtain ⟨j, hj, rfl, HA, O⟩ := hrel
        have c0 := O.cell 0
        have c1 := O.cell 1
        by_cases hlt2 : j < v.length
        · have hb2 : (j : Int) < (v.length : Int) := by omega
          have NX : Hid ((v.take (j + 1)).all pvC = pvC v[j]) := by
            unfold Hid; rw [List.take_succ_eq_append_getElem hlt2, List.all_append, HA.out]; simp
          have NO : Hid (pvC v[j] = false → b = false) := fun h => by
            rw [← HB.out, PN.out]
            rw [List.all_eq_false]
            exact ⟨_, List.getElem_mem hlt2, by rw [h]; simp⟩
          by_cases a1 : (v[j].toNat : Int) < 33
          · obtain rfl := NO.out (pvC_lo a1)
            clear NX NO
            go_wp2_with fail
            go_ret
            exact ⟨rfl, O.drop⟩
          · by_cases a2 : 126 < (v[j].toNat : Int)
            · obtain rfl := NO.out (pvC_hi a2)
              clear NX NO
              go_wp2_with fail
              go_ret
              exact ⟨rfl, O.drop⟩
            · have hm := pvC_mid a1 a2
              cases hq : ((v[j].toNat : Int) == 61)
              · have NX2 : Hid ((v.take (j + 1)).all pvC = true) := NX.out.trans (by rw [hm, hq]; rfl)
                clear NX NO hm HA
                go_wp2_with fail
                go_roundw
                case rel => exact ⟨j + 1, by omega, by go_num, NX2, O⟩
                case measure => simp [intOf]; omega
              · obtain rfl := NO.out (by rw [hm, hq]; rfl)
                clear NX NO hm
                go_wp2_with fail
                go_ret
                exact ⟨rfl, O.drop⟩
        · obtain rfl : j = v.length := by omega
          have fin : b = true := by
            rw [← HB.out, PN.out]
            have := HA.out
            rwa [List.take_length] at this
          subst fin
          clear HA PN
          go_wp2
          go_ret
          exact ⟨rfl, O.drop⟩
end Go.Proofs.YtehkdbgoeakgbaaGreatDoor
