/- mailroomref07.Show. -/
import Derived.Test.YtehkdbgoeakgbaaGreatDoorCtA
import Derived.Test.YtehkdbgoeakgbaaGreatDoorCmG
namespace Go.Proofs.YtehkdbgoeakgbaaGreatDoor
set_option linter.all false
open Go.RowKit Go.Shelf

set_option maxRecDepth 100000 in
set_option maxHeartbeats 4000000 in
theorem rshow7_own {w0 w : World} {L : List Piece} (O : Own w0 w L) (c : Cm) {a : Option Addr} {n cap : Nat} (hn : n = c.ps.length) (h256 : c.verb < 256) (ha : c.arg.length ≤ 1000000) (hl : n ≤ 1000000000) (hv : (c.ps.flatMap ptL).length ≤ 10000000)
    (RD : ∀ w', Own w0 w' L → PmR w' (.slice a n cap) c.ps) :
    Calls Tryz.prog 9 #[cmV c a n cap] w fun e w' => e = .returned (showV7 c) ∧ Own w0 w' L := by
  obtain ⟨v, x, ps⟩ := c
  simp only at hn h256 ha hv RD
  have O1 := O.newBox #[.int .u8 v, .string ⟨x.toArray⟩, .slice a n cap] 30
  have hvp : ∀ p ∈ ps, p.2.length ≤ 1000000000 := by
    intro p hp
    have h1 : (ptL p).length ≤ (ps.flatMap ptL).length := pt_mem hp
    have h2 : p.2.length ≤ (ptL p).length := by
      unfold ptL
      by_cases q : p.2 = []
      · rw [q]; simp
      · rw [if_neg q]; simp; omega
    omega
  obtain ⟨CB, hCB⟩ : ∃ b, b = w.heap.size := ⟨_, rfl⟩
  rw [← hCB] at O1
  obtain ⟨m, hm⟩ : ∃ m, mayCm ⟨v, x, ps⟩ = m := ⟨_, rfl⟩
  have MY := Lib.hid (fun (w' : World) (h : Own w0 w' (box CB #[.int .u8 v, .string ⟨x.toArray⟩, .slice a n cap] 30 :: L)) => rmay7_own (w := w') h ⟨v, x, ps⟩ (a := a) (cap := cap) (n := n) hn h256 (by simp only; omega) hl hvp (fun w' h => RD w' h.drop) hm)
  have RDH := Lib.hid RD
  have HN := Lib.hid hn
  clear hn hvp RD O
  unfold cmV at MY ⊢
  have R0 := Lib.hid (fun h => show7_no (c := ⟨v, x, ps⟩) h)
  have R1 := Lib.hid (fun h => show7_long (c := ⟨v, x, ps⟩) h)
  have R2 := Lib.hid (fun h => show7_yes (c := ⟨v, x, ps⟩) h)
  rw [hm] at R0 R1 R2
  have hv6 := Lib.hid (fun h : m = true => may_verb (hm.trans h))
  clear hm
  obtain ⟨hd, hhd⟩ : ∃ hd, hd = wordL v ++ (if v = 3 ∨ v = 4 then 60 :: (x ++ [62]) else x) := ⟨_, rfl⟩
  have HL : Hid (lineCm ⟨v, x, ps⟩ = hd ++ ps.flatMap ptL) := by
    unfold Hid lineCm; rw [hhd]; simp only [List.append_assoc]
  rw [HL.out] at R1 R2
  have HD := Lib.hid hhd
  clear hhd HL
  go_enter Tryz.func9, Tryz.ntmps9
  go_upto_region 1 with fail
  rw [← hCB]
  clear hCB
  generalize (w.alloc (.cells #[.int .u8 v, .string ⟨x.toArray⟩, .slice a n cap] 30)) = W at O1 ⊢
  have c0 := O1.cell 0
  have c1 := O1.cell 1
  have c2 := O1.cell 2
  go_wp2_with fail
  refine (MY.out _ O1).mono ?_
  clear MY O1 c0 c1 c2
  rintro e w1 ⟨rfl, O2⟩
  have c0 : w1.cell? ⟨CB, 0, none⟩ = some (.int .u8 v) := O2.cell 0
  have c1 : w1.cell? ⟨CB, 1, none⟩ = some (.string ⟨x.toArray⟩) := O2.cell 1
  cases m
  · have R := Lib.hid (R0.out rfl)
    clear R0 R1 R2 HD c0 c1
    go_wp2
    go_returns
    exact ⟨congrArg Ending.returned R.out.symm, O2.drop⟩
  have v6 := (hv6.out rfl).2
  have S1 := Lib.hid (R1.out rfl)
  have S2 := Lib.hid (R2.out rfl)
  clear R1 R2
  have wl := word_len v
  obtain ⟨Wd, hW⟩ : ∃ W, W = wordL v := ⟨_, rfl⟩
  have WO := rword_own O2 v v6 hW.symm
  rw [← hW] at wl HD
  clear hW hv6 R0
  have z1 : ¬ 9223372036854775807 < Wd.length + x.length := by omega
  go_wp2_with fail
  refine WO.mono ?_
  clear WO O2 c0 c1
  rintro e w2 ⟨rfl, O2⟩
  have c0 : w2.cell? ⟨CB, 0, none⟩ = some (.int .u8 v) := O2.cell 0
  have c1 : w2.cell? ⟨CB, 1, none⟩ = some (.string ⟨x.toArray⟩) := O2.cell 1
  have CS : v = 3 ∨ v = 4 ∨ (((v : Int) == 3) = false ∧ ((v : Int) == 4) = false ∧ ¬ (v = 3 ∨ v = 4)) := by
    by_cases h3 : v = 3
    · exact .inl h3
    · by_cases h4 : v = 4
      · exact .inr (.inl h4)
      · exact .inr (.inr ⟨by simp; omega, by simp; omega, by rintro (h | h) <;> contradiction⟩)
  obtain ⟨bs, hbs⟩ : ∃ bs : Array Value, bs = #[.int .u8 v, .string ⟨x.toArray⟩, .slice a n cap] := ⟨_, rfl⟩
  rw [← hbs] at O2
  have BS : Hid (∀ w', Own w0 w' (box CB bs 30 :: L) → w'.cell? ⟨CB, 2, none⟩ = some (.slice a n cap)) := fun w' h => by rw [h.cell 2, hbs]; rfl
  clear hbs
  have hdl : hd.length ≤ 20000000 := by
    rw [HD.out, List.length_append]
    have : (if v = 3 ∨ v = 4 then 60 :: (x ++ [62]) else x).length ≤ x.length + 2 := by split <;> simp
    omega
  rcases CS with rfl | rfl | ⟨h3, h4, h34⟩
  rotate_left
  focus
    have HX : Hid (Wd ++ 60 :: (x ++ [62]) = hd) := HD.out.symm
    clear HD
    go_wp2_with fail
    rw [HX.out]
    clear HX
  rotate_left
  focus
    have HX : Hid (Wd ++ x = hd) := by unfold Hid; rw [HD.out, if_neg h34]
    clear h34 HD
    go_wp2_with fail
    rw [HX.out]
    clear HX
  rotate_left
  focus
    have HX : Hid (Wd ++ 60 :: (x ++ [62]) = hd) := HD.out.symm
    clear HD
    go_wp2_with fail
    rw [HX.out]
    clear HX
  all_goals
    clear c0 c1
    have OX := O2
    clear O2
    go_loopw [4, 5] (fun sv iv wr => ∃ k, k ≤ n ∧ sv = .string ⟨(hd ++ (ps.take k).flatMap ptL).toArray⟩ ∧ iv = .int .i64 k ∧ Own w0 wr (box CB bs 30 :: L)) (fun _ iv _ => n - (intOf iv).toNat)
    case atStart => exact ⟨0, by omega, by simp, rfl, OX⟩
    case round =>
      clear OX
      obtain ⟨k, hk, rfl, rfl, O⟩ := hrel
      have c2 : wr.cell? ⟨CB, 2, none⟩ = some (.slice a n cap) := BS.out _ O
      by_cases hlt : k < n
      · have hb1 : (k : Int) < (n : Int) := by omega
        have hkl : k < ps.length := by rw [← HN.out]; exact hlt
        obtain ⟨g, off, rfl, d0, d1⟩ := (RDH.out _ O.drop).at k hkl
        have ST : Hid (hd ++ (ps.take (k + 1)).flatMap ptL = hd ++ (ps.take k).flatMap ptL ++ ptL ps[k]) := by
          unfold Hid; rw [pt_take ps k hkl, List.append_assoc]
        have hacc : (hd ++ (ps.take k).flatMap ptL).length ≤ 30000000 := by
          have h1 : ps.flatMap ptL = (ps.take k).flatMap ptL ++ (ps.drop k).flatMap ptL := by rw [← List.flatMap_append, List.take_append_drop]
          have := congrArg List.length h1
          rw [List.length_append] at this ⊢
          omega
        have hpl := Nat.le_trans (pt_mem (List.getElem_mem hkl)) hv
        generalize ps[k] = p at d0 d1 ST hpl
        clear hkl
        generalize hd ++ (ps.take k).flatMap ptL = acc at ST hacc ⊢
        obtain ⟨p1, p2⟩ := p
        simp only at d0 d1
        have hp1 : p1.length ≤ 10000000 := by unfold ptL at hpl; simp only [List.length_cons, List.length_append] at hpl; omega
        have hp2 : p2.length ≤ 10000000 := by
          unfold ptL at hpl
          by_cases q : p2 = []
          · rw [q]; simp
          · simp only [if_neg q, List.length_cons, List.length_append] at hpl; omega
        have O2 := O
        clear hpl
        rcases Bool.eq_false_or_eq_true p2.isEmpty with q | q
        · have q' : (!p2.isEmpty) = false := by rw [q]; rfl
          have ST2 : Hid (hd ++ (ps.take (k + 1)).flatMap ptL = acc ++ 32 :: p1) := by
            unfold Hid; rw [ST.out]; unfold ptL
            have : p2 = [] := List.isEmpty_iff.1 q
            simp [this]
          clear ST q
          go_wp2_with fail
          go_roundw
          case rel => exact ⟨k + 1, by omega, by rw [ST2.out]; try simp, by go_num, O2⟩
          case measure => simp [intOf]; omega
        · have q' : (!p2.isEmpty) = true := by rw [q]; rfl
          have ST2 : Hid (hd ++ (ps.take (k + 1)).flatMap ptL = acc ++ 32 :: (p1 ++ 61 :: p2)) := by
            unfold Hid; rw [ST.out]; unfold ptL
            have : p2 ≠ [] := by rintro rfl; cases q
            simp [this]
          clear ST q
          go_wp2_with fail
          go_roundw
          case rel => exact ⟨k + 1, by omega, by rw [ST2.out]; try simp, by go_num, O2⟩
          case measure => simp [intOf]; omega
      · obtain rfl : k = n := by omega
        have FIN : Hid (hd ++ (ps.take k).flatMap ptL = hd ++ ps.flatMap ptL) := by
          unfold Hid; rw [List.take_of_length_le (by have := HN.out; omega)]
        rw [FIN.out]
        clear FIN
        generalize hd ++ ps.flatMap ptL = all at S1 S2 ⊢
        by_cases hlong : 510 < all.length
        · have h5 : (510 : Int) < (all.length : Int) := by omega
          have R := Lib.hid (S1.out hlong)
          clear S1 S2 hlong
          go_wp2
          go_returns
          exact ⟨congrArg Ending.returned R.out.symm, O.drop⟩
        · have h5 : ¬ (510 : Int) < (all.length : Int) := by omega
          have R := Lib.hid (S2.out (by omega))
          clear S1 S2 hlong
          go_wp2
          go_returns
          exact ⟨congrArg Ending.returned R.out.symm, O.drop⟩
end Go.Proofs.YtehkdbgoeakgbaaGreatDoor
