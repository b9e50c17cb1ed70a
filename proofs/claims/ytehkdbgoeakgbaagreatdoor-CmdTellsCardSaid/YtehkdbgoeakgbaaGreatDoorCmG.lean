/- cmd: Show. -/
import Derived.Test.YtehkdbgoeakgbaaGreatDoorCmF
import Derived.Deep.RegionHeld3
import Derived.Deep.DeepCutAuto
namespace Go.Proofs.YtehkdbgoeakgbaaGreatDoor
set_option linter.all false
open Go.RowKit Go.Shelf

def showV7 (c : Cm) : Value := .tuple #[.string ⟨(showCm c).1.toArray⟩, .int .i64 (showCm c).2]
theorem show7_no {c : Cm} (h : mayCm c = false) : showV7 c = .tuple #[.string ⟨#[]⟩, .int .i64 4] := by unfold showV7 showCm; rw [h]; rfl
theorem show7_long {c : Cm} (h : mayCm c = true) (h2 : 510 < (lineCm c).length) : showV7 c = .tuple #[.string ⟨#[]⟩, .int .i64 40] := by unfold showV7 showCm; rw [if_pos h, if_neg (by omega)]
theorem show7_yes {c : Cm} (h : mayCm c = true) (h2 : (lineCm c).length ≤ 510) : showV7 c = .tuple #[.string ⟨(lineCm c).toArray⟩, .int .i64 0] := by unfold showV7 showCm; rw [if_pos h, if_pos h2]
theorem pt_take (ps : List Pm) (k : Nat) (h : k < ps.length) : (ps.take (k + 1)).flatMap ptL = (ps.take k).flatMap ptL ++ ptL ps[k] := by
  rw [List.take_succ_eq_append_getElem h, List.flatMap_append]; simp
theorem pt_mem {ps : List Pm} {p : Pm} (hp : p ∈ ps) : (ptL p).length ≤ (ps.flatMap ptL).length := by
  induction ps with
  | nil => cases hp
  | cons q ps ih =>
    rw [List.flatMap_cons, List.length_append]
    rcases List.mem_cons.1 hp with rfl | hp
    · omega
    · have := ih hp; omega
set_option maxRecDepth 100000 in
set_option maxHeartbeats 4000000 in
theorem show7_own {w0 w : World} {L : List Piece} (K : Kinds w0) (O : Own w0 w L) (c : Cm) {a : Option Addr} {n cap : Nat} (hn : n = c.ps.length) (h256 : c.verb < 256) (ha : c.arg.length ≤ 10000000) (hl : n ≤ 1000000000) (hv : (c.ps.flatMap ptL).length ≤ 10000000)
    (RD : ∀ w', Own w0 w' L → PmR w' (.slice a n cap) c.ps) :
    Calls Tryz.prog 8 #[cmV c a n cap] w fun e w' => e = .returned (showV7 c) ∧ Own w0 w' L := by
  obtain ⟨v, x, ps⟩ := c
  simp only at hn h256 ha hv RD
  have O1 := O.newBox #[.int .u8 v, .string ⟨x.toArray⟩, .slice a n cap] 24
  have hvp : ∀ p ∈ ps, p.2.length ≤ 1000000000 := by
    intro p hp
    have h1 : (ptL p).length ≤ (ps.flatMap ptL).length := pt_mem hp
    have h2 : p.2.length ≤ (ptL p).length := by
      unfold ptL
      by_cases q : p.2 = []
      · rw [q]; simp
      · rw [if_neg q]; simp; omega
    omega
  obtain ⟨m, hm⟩ : ∃ m, mayCm ⟨v, x, ps⟩ = m := ⟨_, rfl⟩
  have MY := may7_own K O1 ⟨v, x, ps⟩ hn h256 (by simp only; omega) hl hvp (fun w' h => RD w' h.drop) hm
  have PA := Lib.hid (fun w' (h : Own w0 w' (box w.heap.size #[.int .u8 v, .string ⟨x.toArray⟩, .slice a n cap] 24 :: L)) => path_own K h x (by omega))
  have WD : Hid (∀ w', Own w0 w' (box w.heap.size #[.int .u8 v, .string ⟨x.toArray⟩, .slice a n cap] 24 :: L) → Calls Tryz.prog 23 #[] w' fun e w'' => e = .returned wordsV ∧ Own w0 w'' (box w.heap.size #[.int .u8 v, .string ⟨x.toArray⟩, .slice a n cap] 24 :: L)) := fun w' h => words_own h
  have RDH := Lib.hid RD
  have HN := Lib.hid hn
  clear K hn hvp RD
  unfold cmV at MY ⊢
  cases m
  · have R := Lib.hid (show7_no hm)
    have c0 := O1.cell 0
    have c1 := O1.cell 1
    have c2 := O1.cell 2
    clear PA WD hm HN
    go_enter Tryz.func8, Tryz.ntmps8
    go_wp2_with fail
    refine MY.mono ?_
    clear MY O1
    rintro e w1 ⟨rfl, O2⟩
    go_wp2
    go_returns
    exact ⟨congrArg Ending.returned R.out.symm, O2.drop⟩
  have R1 := Lib.hid (show7_long hm)
  have R2 := Lib.hid (show7_yes hm)
  have hv6 := may_verb hm
  have HP : Hid ((v = 3 ∨ v = 4) → pathL x = 60 :: (x ++ [62])) := fun q => by
    have := (may_path hm q).1
    unfold pathL
    simp only at this
    rw [this]; rfl
  obtain ⟨hd, hhd⟩ : ∃ hd, hd = wordL v ++ (if v = 3 ∨ v = 4 then 60 :: (x ++ [62]) else x) := ⟨_, rfl⟩
  have HL : Hid (lineCm ⟨v, x, ps⟩ = hd ++ ps.flatMap ptL) := by
    unfold Hid lineCm; rw [hhd]; simp only [List.append_assoc]
  have HD := Lib.hid hhd
  rw [HL.out] at R1 R2
  have HS : Hid (∀ w', Own w0 w' (box w.heap.size #[.int .u8 v, .string ⟨x.toArray⟩, .slice a n cap] 24 :: L) → (w'.cell? ⟨w.heap.size, 0, none⟩ = some (.int .u8 v) ∧ w'.cell? ⟨w.heap.size, 1, none⟩ = some (.string ⟨x.toArray⟩))) := fun w' h => ⟨h.cell 0, h.cell 1⟩
  have c0 := O1.cell 0
  have c1 := O1.cell 1
  have c2 := O1.cell 2
  clear hhd hm HL O
  go_enter Tryz.func8, Tryz.ntmps8
  go_wp2_with fail
  refine MY.mono ?_
  clear MY O1 c0 c1 c2
  rintro e w1 ⟨rfl, O2⟩
  have K0 := Lib.hid (HS.out _ O2)
  have c2 := O2.cell 2
  have IX := index_words .u8 v (by have := hv6.2; omega)
  have wl := word_len v
  obtain ⟨W, hW⟩ : ∃ W, W = wordL v := ⟨_, rfl⟩
  rw [← hW] at IX wl HD
  clear hW
  have V0 : ¬ ((v : Int) < 0) := by omega
  go_upto_region 3 with fail
  have z1 : ¬ 9223372036854775807 < W.length + x.length := by omega
  go_region_held3 (fun w' => w'.cell? ⟨w.heap.size, 0, none⟩ = some (.int .u8 v) ∧ w'.cell? ⟨w.heap.size, 1, none⟩ = some (.string ⟨x.toArray⟩))
    (first | with_reducible exact K0.out | exact K0.out | exact (HS.out _ O3))
    (first
      | (go_at_call 23; (with_reducible refine (WD.out _ O2.drew).mono ?_); rintro e1 ws ⟨rfl, O3⟩))
  clear K0 c2 O2
  have K1 := Lib.hid (HS.out _ O3)
  have c0 := O3.cell 0
  have c1 := O3.cell 1
  have c2 := O3.cell 2
  obtain ⟨px, hpx⟩ : ∃ px, pathL x = px := ⟨_, rfl⟩
  have HPX : Hid ((v = 3 ∨ v = 4) → px = 60 :: (x ++ [62])) := fun q => hpx.symm.trans (HP.out q)
  have HPL : px.length ≤ 10000002 := by
    rw [← hpx]; unfold pathL
    cases (x.isEmpty || parseB x) <;> simp; omega
  have PA2 : Hid (∀ w', Own w0 w' (box w.heap.size #[.int .u8 v, .string ⟨x.toArray⟩, .slice a n cap] 24 :: L) → Calls Tryz.prog 24 #[.string ⟨x.toArray⟩] w' fun e w'' => e = .returned (.string ⟨px.toArray⟩) ∧ Own w0 w'' (box w.heap.size #[.int .u8 v, .string ⟨x.toArray⟩, .slice a n cap] 24 :: L)) := by
    unfold Hid; rw [← hpx]; exact PA.out
  clear PA HP hpx
  have z2 : ¬ 9223372036854775807 < W.length + px.length := by omega
  by_cases q : v = 3 ∨ v = 4
  rotate_left
  focus
    have e3 : ((v : Int) == 3) = false := by simp; omega
    have e4 : ((v : Int) == 4) = false := by simp; omega
    have E : hd = W ++ x := by rw [HD.out, if_neg q]
    have hdl : hd.length ≤ 20000000 := by rw [E, List.length_append]; omega
    clear q HPX HPL PA2 z1 z2 WD K1 HD
    rw [← E]
    have OX := O3
    clear O3 E c0 c1 c2
  rotate_left
  focus
    have E : hd = W ++ px := by rw [HD.out, if_pos q, HPX.out q]
    have hdl : hd.length ≤ 20000000 := by rw [E, List.length_append]; omega
    clear HPX HPL HD z1
    rcases q with q | q
    rotate_left
    focus
      have e3 : ((v : Int) == 3) = false := by simp; omega
      have e4 : ((v : Int) == 4) = true := by simp; omega
      clear q
      go_upto_region 5 with fail
      clear c0 c1 c2
      go_region_held3 (fun w' => w'.cell? ⟨w.heap.size, 0, none⟩ = some (.int .u8 v) ∧ w'.cell? ⟨w.heap.size, 1, none⟩ = some (.string ⟨x.toArray⟩))
        (first | with_reducible exact K1.out | exact K1.out | exact (HS.out _ O4) | exact (HS.out _ O5))
        (first
          | (go_at_call 23; (with_reducible refine (WD.out _ O3.drew).mono ?_); rintro e1 ws2 ⟨rfl, O4⟩)
          | (go_at_call 24; (with_reducible refine (PA2.out _ O4).mono ?_); rintro e1 ws3 ⟨rfl, O5⟩))
      all_goals
        have OX := O5
        clear O5 O4 K1 WD PA2 O3
        rw [← E]
        clear E
    rotate_right
    focus
      have e3 : ((v : Int) == 3) = true := by simp; omega
      clear q
      go_upto_region 5 with fail
      clear c0 c1 c2
      go_region_held3 (fun w' => w'.cell? ⟨w.heap.size, 0, none⟩ = some (.int .u8 v) ∧ w'.cell? ⟨w.heap.size, 1, none⟩ = some (.string ⟨x.toArray⟩))
        (first | with_reducible exact K1.out | exact K1.out | exact (HS.out _ O4) | exact (HS.out _ O5))
        (first
          | (go_at_call 23; (with_reducible refine (WD.out _ O3.drew).mono ?_); rintro e1 ws2 ⟨rfl, O4⟩)
          | (go_at_call 24; (with_reducible refine (PA2.out _ O4).mono ?_); rintro e1 ws3 ⟨rfl, O5⟩))
      all_goals
        have OX := O5
        clear O5 O4 K1 WD PA2 O3
        rw [← E]
        clear E
  all_goals
    clear HS
    have c2 := OX.cell 2
    go_wp2_with fail
    replace OX := OX.drop
    clear c2
    go_loopw [4, 36] (fun sv iv wr => ∃ k, k ≤ n ∧ sv = .string ⟨(hd ++ (ps.take k).flatMap ptL).toArray⟩ ∧ iv = .int .i64 k ∧ Own w0 wr L) (fun _ iv _ => n - (intOf iv).toNat)
    case atStart => exact ⟨0, by omega, by simp, rfl, OX⟩
    case round =>
      clear OX
      obtain ⟨k, hk, rfl, rfl, O⟩ := hrel
      by_cases hlt : k < n
      · have hb1 : (k : Int) < (n : Int) := by omega
        have hkl : k < ps.length := by rw [← HN.out]; exact hlt
        obtain ⟨g, off, rfl, d0, d1⟩ := (RDH.out _ O).at k hkl
        have ST : Hid (hd ++ (ps.take (k + 1)).flatMap ptL = hd ++ (ps.take k).flatMap ptL ++ ptL ps[k]) := by
          unfold Hid; rw [pt_take ps k hkl, List.append_assoc]
        have hacc : (hd ++ (ps.take k).flatMap ptL).length ≤ 30000000 := by
          have h1 : ps.flatMap ptL = (ps.take k).flatMap ptL ++ (ps.drop k).flatMap ptL := by rw [← List.flatMap_append, List.take_append_drop]
          have := congrArg List.length h1
          rw [List.length_append] at this ⊢
          omega
        have hpl := Nat.le_trans (pt_mem (List.getElem_mem hkl)) hv
        generalize ps[k] = p at d0 d1 ST hpl
        clear hkl
        generalize hd ++ (ps.take k).flatMap ptL = acc at ST hacc ⊢
        obtain ⟨p1, p2⟩ := p
        simp only at d0 d1
        have hp1 : p1.length ≤ 10000000 := by unfold ptL at hpl; simp only [List.length_cons, List.length_append] at hpl; omega
        have hp2 : p2.length ≤ 10000000 := by
          unfold ptL at hpl
          by_cases q : p2 = []
          · rw [q]; simp
          · simp only [if_neg q, List.length_cons, List.length_append] at hpl; omega
        have O2 := O.newBox #[.string ⟨p1.toArray⟩, .string ⟨p2.toArray⟩] 48
        clear hpl
        rcases Bool.eq_false_or_eq_true p2.isEmpty with q | q
        · have q' : (!p2.isEmpty) = false := by rw [q]; rfl
          have ST2 : Hid (hd ++ (ps.take (k + 1)).flatMap ptL = acc ++ 32 :: p1) := by
            unfold Hid; rw [ST.out]; unfold ptL
            have : p2 = [] := List.isEmpty_iff.1 q
            simp [this]
          clear ST q
          go_wp2_with fail
          go_roundw
          case rel => exact ⟨k + 1, by omega, by rw [ST2.out]; try simp, by go_num, O2.drop⟩
          case measure => simp [intOf]; omega
        · have q' : (!p2.isEmpty) = true := by rw [q]; rfl
          have ST2 : Hid (hd ++ (ps.take (k + 1)).flatMap ptL = acc ++ 32 :: (p1 ++ 61 :: p2)) := by
            unfold Hid; rw [ST.out]; unfold ptL
            have : p2 ≠ [] := by rintro rfl; cases q
            simp [this]
          clear ST q
          go_wp2_with fail
          go_roundw
          case rel => exact ⟨k + 1, by omega, by rw [ST2.out]; try simp, by go_num, O2.drop⟩
          case measure => simp [intOf]; omega
      · obtain rfl : k = n := by omega
        have FIN : Hid (hd ++ (ps.take k).flatMap ptL = hd ++ ps.flatMap ptL) := by
          unfold Hid; rw [List.take_of_length_le (by have := HN.out; omega)]
        rw [FIN.out]
        clear FIN
        generalize hd ++ ps.flatMap ptL = all at R1 R2 ⊢
        by_cases hlong : 510 < all.length
        · have h5 : (510 : Int) < (all.length : Int) := by omega
          have R := Lib.hid (R1.out hlong)
          clear R1 R2 hlong
          go_wp2
          go_returns
          exact ⟨congrArg Ending.returned R.out.symm, O⟩
        · have h5 : ¬ (510 : Int) < (all.length : Int) := by omega
          have R := Lib.hid (R2.out (by omega))
          clear R1 R2 hlong
          go_wp2
          go_returns
          exact ⟨congrArg Ending.returned R.out.symm, O⟩
end Go.Proofs.YtehkdbgoeakgbaaGreatDoor
