/- mailroomref07: May. -/
import Derived.Test.YtehkdbgoeakgbaaGreatDoorCmT
namespace Go.Proofs.YtehkdbgoeakgbaaGreatDoor
set_option linter.all false
open Go.RowKit Go.Shelf

set_option maxRecDepth 100000 in
set_option maxHeartbeats 8000000 in
theorem rmay7_own {w0 w : World} {L : List Piece} (O : Own w0 w L) (c : Cm) {a : Option Addr} {n cap : Nat} (hn : n = c.ps.length) (h256 : c.verb < 256) (ha : c.arg.length ≤ 1000000) (hl : n ≤ 1000000000) (hv : ∀ p ∈ c.ps, p.2.length ≤ 1000000000)
    (RD : ∀ w', Own w0 w' L → PmR w' (.slice a n cap) c.ps) {b : Bool} (hb : mayCm c = b) :
    Calls Tryz.prog 13 #[cmV c a n cap] w fun e w' => e = .returned (.bool b) ∧ Own w0 w' L := by
  have RUN := Lib.hid (fun h => hb.symm.trans (may_run (c := c) h))
  have LNG := Lib.hid (fun h => hb.symm.trans (cm_long (c := c) h))
  obtain ⟨v, x, ps⟩ := c
  simp only at hn h256 ha hv RD RUN LNG
  show Calls _ _ #[.agg #[.int .u8 v, .string ⟨x.toArray⟩, .slice a n cap]] w _
  have O1 := O.newBox #[.int .u8 v, .string ⟨x.toArray⟩, .slice a n cap] 30
  have HB : Hid (b = mayCm ⟨v, x, ps⟩) := hb.symm
  have RDH := Lib.hid RD
  have HN := Lib.hid hn
  have HV := Lib.hid hv
  have MAY := Lib.hid (fun w => may3_any x w (by omega) (may x) rfl)
  clear hb RD hn hv O
  have c0 := O1.cell 0
  have c1 := O1.cell 1
  have c2 := O1.cell 2
  by_cases hv1 : v < 1
  · have hv1' : (v : Int) < 1 := by omega
    obtain rfl : b = false := HB.out.trans (may_other (by simp only; omega))
    clear HB RUN LNG MAY
    go_enter Tryz.func13, Tryz.ntmps13
    go_wp2
    go_ret
    exact ⟨rfl, O1.drop⟩
  have hv1' : ¬ (v : Int) < 1 := by omega
  by_cases hv6 : 6 < v
  · have hv6' : (6 : Int) < (v : Int) := by omega
    obtain rfl : b = false := HB.out.trans (may_other (by simp only; omega))
    clear HB RUN LNG MAY
    go_enter Tryz.func13, Tryz.ntmps13
    go_wp2
    go_ret
    exact ⟨rfl, O1.drop⟩
  have hv6' : ¬ (6 : Int) < (v : Int) := by omega
  by_cases h8 : 8 < n
  · have h8' : (8 : Int) < (n : Int) := by omega
    obtain rfl : b = false := LNG.out (by rw [← HN.out]; exact h8)
    clear HB RUN LNG MAY
    go_enter Tryz.func13, Tryz.ntmps13
    go_wp2
    go_ret
    exact ⟨rfl, O1.drop⟩
  have h8' : ¬ (8 : Int) < (n : Int) := by omega
  have V : Hid (1 ≤ v ∧ v ≤ 6) := ⟨by omega, by omega⟩
  have H8 : Hid (ps.length ≤ 8) := by unfold Hid; rw [← HN.out]; omega
  -- the verb's kind
  obtain ⟨e3, he3⟩ : ∃ q, q = ((v : Int) == 3) := ⟨_, rfl⟩
  obtain ⟨e4, he4⟩ : ∃ q, q = ((v : Int) == 4) := ⟨_, rfl⟩
  have n3 : ((v : Int) != 3) = !e3 := by rw [he3]; rfl
  have n4 : ((v : Int) != 4) = !e4 := by rw [he4]; rfl
  have q3 := he3.symm
  have q4 := he4.symm
  have E3 : Hid (e3 = true ↔ v = 3) := by unfold Hid; rw [he3, beq_iff_eq]; omega
  have E4 : Hid (e4 = true ↔ v = 4) := by unfold Hid; rw [he4, beq_iff_eq]; omega
  have E34 : ¬ (e3 = true ∧ e4 = true) := by rintro ⟨h1, h2⟩; have := E3.out.1 h1; have := E4.out.1 h2; omega
  clear he3 he4
  by_cases h0 : e3 = false ∧ e4 = false ∧ 0 < n
  · obtain ⟨rfl, rfl, h0⟩ := h0
    have h0' : (0 : Int) < (n : Int) := by omega
    have fin : b = false := by
      rw [HB.out]
      cases hb : mayCm ⟨v, x, ps⟩ with
      | false => rfl
      | true =>
        have := may_plain hb (by rintro (h | h) <;> simp only at h <;> simp [h] at q3 q4)
        simp only at this
        have := HN.out
        rw [‹ps = []›] at this
        simp at this; omega
    subst fin
    clear HB RUN LNG MAY hv1 hv6 h8 V H8 E3 E4 E34
    go_enter Tryz.func13, Tryz.ntmps13
    go_wp2
    go_ret
    exact ⟨rfl, O1.drop⟩
  have HK : Hid ((v = 3 ∨ v = 4) ∨ ps = []) := by
    unfold Hid
    cases e3
    · cases e4
      · right
        have : n = 0 := by
          rcases Nat.eq_zero_or_pos n with h | h
          · exact h
          · exact absurd ⟨rfl, rfl, h⟩ h0
        exact List.eq_nil_of_length_eq_zero (by rw [← HN.out]; exact this)
      · exact .inl (.inr (E4.out.1 (by trivial)))
    · exact .inl (.inl (E3.out.1 (by trivial)))
  have REST := Lib.hid (fun h => HB.out.trans (may_rest (x := x) V.out H8.out h HK.out))
  obtain ⟨B, hB⟩ : ∃ q, q = w.heap.size := ⟨_, rfl⟩
  clear HB LNG hv1 hv6 h8 V H8
  have KINDS : (e3 = true ∧ e4 = false) ∨ (e3 = false ∧ e4 = true) ∨ (e3 = false ∧ e4 = false ∧ ¬ (0 : Int) < (n : Int)) := by
    cases e3 <;> cases e4
    · right; right
      refine ⟨rfl, rfl, fun h => h0 ⟨rfl, rfl, by omega⟩⟩
    · right; left; exact ⟨rfl, rfl⟩
    · left; exact ⟨rfl, rfl⟩
    · exact absurd ⟨rfl, rfl⟩ E34
  have KH := Lib.hid KINDS
  clear h0 E34 KINDS
  go_enter Tryz.func13, Tryz.ntmps13
  rcases KH.out with ⟨rfl, rfl⟩ | ⟨rfl, rfl⟩ | ⟨rfl, rfl, hz⟩
  all_goals
    simp only [Bool.not_true, Bool.not_false] at n3 n4
    go_wp2_with fail
    rw [← hB] at O1 ⊢
    clear c0 c1 c2 hB
    try clear hz
    go_loopw [3] (fun iv wr => ∃ k : Nat, k ≤ n ∧ iv = .int .i64 k ∧ Hid (pmsRun [] ps = pmsRun ((ps.take k).map (·.1)) (ps.drop k)) ∧ Own w0 wr (box B #[.int .u8 v, .string ⟨x.toArray⟩, .slice a n cap] 30 :: L)) (fun iv _ => n - (intOf iv).toNat)
    case atStart => exact ⟨0, by omega, rfl, rfl, O1⟩
    case round =>
      clear O1
      obtain ⟨k, hk, rfl, HA, O⟩ := hrel
      have c0 := O.cell 0
      have c1 := O.cell 1
      have c2 := O.cell 2
      by_cases hlt : k < n
      · first
          | (exfalso; omega; done)
          | (have hb1 : (k : Int) < (n : Int) := by omega
             have hkl : k < ps.length := by rw [← HN.out]; exact hlt
             obtain ⟨g, off, rfl, d0, d1⟩ := (RDH.out _ O.drop).at k hkl
             have ST : Hid (pmsRun [] ps = (pmB ps[k] && (!((ps.take k).any fun y => y.1 == ps[k].1) && pmsRun ((ps.take (k + 1)).map (·.1)) (ps.drop (k + 1))))) := by
               unfold Hid
               rw [HA.out, List.drop_eq_getElem_cons hkl, List.take_succ_eq_append_getElem hkl, List.map_append, ← contains_any]
               rfl
             have hvk := HV.out _ (List.getElem_mem hkl)
             obtain ⟨p, hp⟩ : ∃ p, p = ps[k] := ⟨_, rfl⟩
             rw [← hp] at d0 d1 ST hvk
             have PK : Hid (∀ h : k < ps.length, ps[k] = p) := fun h => hp.symm
             clear hkl hp
             obtain ⟨q1, hq1⟩ : ∃ q, pmB p = q := ⟨_, rfl⟩
             have P1 := rparam_own O p hvk hq1
             rw [hq1] at ST
             clear hq1 HA
             unfold pmV at P1
             go_wp2_with fail
             refine P1.mono ?_
             clear P1 O c0 c1 c2 d0 d1
             rintro e w1 ⟨rfl, O⟩
             cases q1
             · have fin : b = false := RUN.out (by rw [ST.out]; rfl)
               subst fin
               clear ST RUN REST
               go_wp2
               go_ret
               exact ⟨rfl, O.drop⟩
             · have ST1 : Hid (pmsRun [] ps = (!((ps.take k).any fun y => y.1 == p.1) && pmsRun ((ps.take (k + 1)).map (·.1)) (ps.drop (k + 1)))) := ST.out
               clear ST
               go_wp2_with fail
               go_loopw [4] (fun iv wr => ∃ j : Nat, j ≤ k ∧ iv = .int .i64 j ∧ Hid ((ps.take j).any (fun y => y.1 == p.1) = false) ∧ Own w0 wr (box B #[.int .u8 v, .string ⟨x.toArray⟩, .slice (some ⟨g, off, none⟩) n cap] 30 :: L)) (fun iv _ => k - (intOf iv).toNat)
               case atStart => exact ⟨0, by omega, rfl, rfl, O⟩
               case round =>
                 clear O
                 obtain ⟨j, hj, rfl, HJ, O⟩ := hrel
                 have c2 := O.cell 2
                 by_cases hlt2 : j < k
                 · have hb2 : (j : Int) < (k : Int) := by omega
                   have hb3 : (j : Int) < (n : Int) := by omega
                   have hjl : j < ps.length := by rw [← HN.out]; omega
                   have hkl : k < ps.length := by rw [← HN.out]; exact hlt
                   obtain ⟨g1, off1, e1, d0, d1⟩ := (RDH.out _ O.drop).at j hjl
                   obtain ⟨g2, off2, e2, f0, f1⟩ := (RDH.out _ O.drop).at k hkl
                   simp only [Option.some.injEq, Addr.mk.injEq, and_true] at e1 e2
                   obtain ⟨rfl, rfl⟩ := e1
                   obtain ⟨rfl, rfl⟩ := e2
                   rw [PK.out hkl] at f0 f1
                   have NX : Hid ((ps.take (j + 1)).any (fun y => y.1 == p.1) = (ps[j].1 == p.1)) := by
                     unfold Hid; rw [List.take_succ_eq_append_getElem hjl, List.any_append, HJ.out]; simp
                   have YES : Hid ((ps[j].1 == p.1) = true → (ps.take k).any (fun y => y.1 == p.1) = true) := fun h => List.any_eq_true.2 ⟨_, List.mem_take_iff_getElem.2 ⟨j, by omega, rfl⟩, h⟩
                   generalize ps[j] = y at d0 d1 NX YES
                   clear hjl hkl
                   rcases Bool.eq_false_or_eq_true (y.1 == p.1) with q | q
                   · have hy : y.1 = p.1 := by simpa using q
                     rw [hy] at d0
                     have fin : b = false := RUN.out (by rw [ST1.out, YES.out q]; rfl)
                     subst fin
                     clear NX YES q hy RUN REST
                     go_wp2_with fail
                     go_quiet (fail)
                     go_wp2
                     go_ret
                     exact ⟨rfl, (O.drop).drewN _⟩
                   · have hy : ¬ y.1 = p.1 := by simpa using q
                     have NX2 : Hid ((ps.take (j + 1)).any (fun y => y.1 == p.1) = false) := NX.out.trans q
                     clear NX YES
                     go_wp2_with fail
                     go_quiet (fail)
                     go_wp2
                     go_roundw
                     case rel => exact ⟨j + 1, by omega, by go_num, NX2, O.drewN _⟩
                     case measure => simp [intOf]; omega
                 · obtain rfl : j = k := by omega
                   have ST3 : Hid (pmsRun [] ps = pmsRun ((ps.take (j + 1)).map (·.1)) (ps.drop (j + 1))) := by
                     unfold Hid; rw [ST1.out, HJ.out]; rfl
                   clear ST1 HJ PK
                   go_wp2
                   go_roundw
                   case rel => exact ⟨j + 1, by omega, by go_num, ST3, O⟩
                   case measure => simp [intOf]; omega)
      · obtain rfl : k = n := by omega
        have R := Lib.hid (REST.out (by rw [HA.out, List.drop_of_length_le (by have := HN.out; omega)]; rfl))
        clear HA REST RUN HV RDH HN HK
        first
          | (have v3 : v = 3 := E3.out.1 (by trivial)
             have R2 : Hid (b = (x.isEmpty || parseB x)) := by unfold Hid; rw [R.out, v3]; rfl
             have n1 : ((v : Int) == 1) = false := by rw [v3]; rfl
             clear R E3 E4 MAY KH
             subst v3
             rcases Bool.eq_false_or_eq_true x.isEmpty with q | q
             · obtain rfl : b = true := by rw [R2.out, q]; rfl
               have q' : (!x.isEmpty) = false := by rw [q]; rfl
               clear R2
               go_wp2
               go_ret
               exact ⟨rfl, O.drop⟩
             · have q' : (!x.isEmpty) = true := by rw [q]; rfl
               have AM := rmay_own O x ha
               obtain rfl : b = parseB x := by rw [R2.out, q]; rfl
               clear R2
               go_wp2_with fail
               refine AM.mono ?_
               clear AM O c0 c1 c2
               rintro e w2 ⟨rfl, O⟩
               go_wp2
               go_ret
               exact ⟨rfl, O.drop⟩)
          | (have v4 : v = 4 := E4.out.1 (by trivial)
             have R2 : Hid (b = parseB x) := by unfold Hid; rw [R.out, v4]; rfl
             have n1 : ((v : Int) == 1) = false := by rw [v4]; rfl
             have AM := rmay_own O x ha
             rw [← R2.out] at AM
             clear R E3 E4 MAY KH R2
             subst v4
             go_wp2_with fail
             refine AM.mono ?_
             clear AM O c0 c1 c2
             rintro e w2 ⟨rfl, O⟩
             go_wp2
             go_ret
             exact ⟨rfl, O.drop⟩)
          | (by_cases v1 : v = 1
             · subst v1
               have R2 : Hid (b = may x) := R.out
               have M := MAY.out wr
               rw [← R2.out] at M
               clear R E3 E4 MAY KH R2
               go_wp2_with fail
               refine M.mono ?_
               rintro e w2 ⟨rfl, ch⟩
               replace O := O.pure ch
               clear M c0 c1 c2 ch
               go_wp2
               go_ret
               exact ⟨rfl, O.drop⟩
             · have n1 : ((v : Int) == 1) = false := by simp; omega
               have R2 : Hid (b = x.isEmpty) := by
                 have e3 : v ≠ 3 := fun h => by have := E3.out.2 h; cases this
                 have e4 : v ≠ 4 := fun h => by have := E4.out.2 h; cases this
                 unfold Hid; rw [R.out, if_neg v1, if_neg e4, if_neg e3]
               clear R E3 E4 MAY KH
               have hb := R2.out
               subst hb
               go_wp2
               go_ret
               exact ⟨rfl, O.drop⟩)
end Go.Proofs.YtehkdbgoeakgbaaGreatDoor
