/- mailroomref09: Body, Plain, Hops, Show. -/
import Derived.Test.YtnkcanhkdfckmaaDoorHdY
namespace Go.Proofs.YtnkcanhkdfckmaaDoor
set_option linter.all false
open Go.RowKit Go.Shelf

theorem body_line {s : List UInt8} {k : Nat} (hk : k < (cutL s).1.length) (he : (cutL s).1[k] = []) (hn : ∀ l ∈ (cutL s).1.take k, l ≠ []) : bodyL s = s.drop (atL (cutL s).1 k + 2) ∧ atL (cutL s).1 k + 2 ≤ s.length := by
  have h1 : (cutL s).1 = (cutL s).1.take k ++ [] :: (cutL s).1.drop (k + 1) := by
    conv => lhs; rw [← List.take_append_drop k (cutL s).1, List.drop_eq_getElem_cons hk, he]
  obtain ⟨a1, a2, -⟩ := atL_cut s (k + 1) hk
  have h2 := atL_succ hk
  rw [he] at h2
  have e : atL (cutL s).1 (k + 1) = atL (cutL s).1 k + 2 := by rw [h2]; simp
  rw [e] at a1 a2
  refine ⟨?_, a1⟩
  rw [body_at h1 hn]
  have := (cutL_join (s.drop (atL (cutL s).1 k + 2))).1
  rw [a2] at this
  exact this
theorem take_ne {ls : List (List UInt8)} {k : Nat} (hk : k < ls.length) (hn : ∀ l ∈ ls.take k, l ≠ []) (he : ls[k] ≠ []) : ∀ l ∈ ls.take (k + 1), l ≠ [] := by
  intro l hl
  rw [List.take_succ_eq_append_getElem hk] at hl
  rcases List.mem_append.1 hl with hl | hl
  · exact hn l hl
  · simp at hl; subst hl; exact he
set_option maxHeartbeats 2000000 in
theorem rBody_own {w0 w : World} {L : List Piece} (O : Own w0 w L) (s : List UInt8) (hs : s.length ≤ 10000000) {r : List UInt8} (hr : bodyL s = r) :
    Calls Tryd.prog 23 #[.string ⟨s.toArray⟩] w fun e w' => e = .returned (.string ⟨r.toArray⟩) ∧ Own w0 w' L := by
  have CUT := refCut_own O s (by omega)
  have BL := Lib.hid (fun k hk he hn => body_line (s := s) (k := k) hk he hn)
  have BN := Lib.hid (fun h => body_none (s := s) h)
  have AT := Lib.hid (fun k hk => atL_succ (ls := (cutL s).1) (k := k) hk)
  have AB := Lib.hid (fun k hk => (atL_cut s k hk).1)
  rw [hr] at BN
  simp only [hr] at BL
  have HLB := Lib.hid (cutL_len s)
  clear hr
  generalize cutL s = ct at CUT BL BN AT AB HLB
  obtain ⟨lines, rest⟩ := ct
  simp only at CUT BL BN AT AB HLB
  go_enter Tryd.func23, Tryd.ntmps23
  go_wp2_with fail
  refine CUT.mono ?_
  clear O CUT
  rintro e w1 ⟨lv, rfl, O⟩
  obtain ⟨la, lcap, rfl⟩ := O.shape
  obtain ⟨N, hN⟩ : ∃ n, n = lines.length := ⟨_, rfl⟩
  rw [← hN] at O HLB ⊢
  have HN := Lib.hid hN
  clear hN
  have hN9 : N ≤ 10000000 := by have := HLB.out; omega
  go_wp2_with fail
  go_loopw [3, 6] (fun av iv wr => ∃ k : Nat, k ≤ N ∧ av = .int .i64 ((atL lines k : Nat) : Int) ∧ iv = .int .i64 k ∧ Hid (∀ l ∈ lines.take k, l ≠ []) ∧ wr = w1) (fun _ iv _ => N - (intOf iv).toNat)
  case atStart => exact ⟨0, by omega, rfl, rfl, (show Hid _ from fun l hl => by simp at hl), by trivial⟩
  case round =>
    obtain ⟨k, hk, rfl, rfl, HE, rfl⟩ := hrel
    by_cases hlt : k < N
    · have hb1 : (k : Int) < (N : Int) := by omega
      have hlt2 : k < lines.length := by rw [← HN.out]; exact hlt
      obtain ⟨-, g, rfl, c0, -⟩ := O.strsAt k hlt2
      have hat := AT.out k hlt2
      have hab := AB.out (k + 1) hlt2
      have TN := Lib.hid (fun h => take_ne hlt2 HE.out h)
      have BLk := Lib.hid (fun h => BL.out k hlt2 h HE.out)
      have HAT := Lib.hid hat
      rw [hat] at hab
      generalize lines[k] = l at c0 HAT hab TN BLk
      clear hat hlt2
      generalize atL lines k = at0 at HAT hab BLk ⊢
      cases l with
      | nil =>
        obtain ⟨b1, b2⟩ := BLk.out rfl
        have SF := run_subFrom s (at0 + 2) b2
        rw [← b1, show ((at0 + 2 : Nat) : Int) = (at0 : Int) + 2 by omega] at SF
        simp only [List.length_nil, Nat.add_zero] at hab
        clear BLk b1 HAT TN HE
        go_wp2
        go_ret
        exact ⟨rfl, O.drop⟩
      | cons c t =>
        have NX := Lib.hid (TN.out (by simp))
        generalize hl : c :: t = l at c0 HAT hab NX
        have he : l.isEmpty = false := by rw [← hl]; rfl
        have he2 : (l == []) = false := by rw [← hl]; rfl
        clear hl TN BLk HE
        go_wp2_with fail
        go_roundw
        case rel => exact ⟨k + 1, by omega, by rw [HAT.out]; go_num, by go_num, NX, by trivial⟩
        case measure => simp [intOf]; omega
    · obtain rfl : k = N := by omega
      have fin : r = [] := BN.out (fun l hl => HE.out l (by rw [List.take_of_length_le (by have := HN.out; omega)]; exact hl))
      subst fin
      go_wp2
      go_ret
      exact ⟨rfl, O.drop⟩
theorem getL_small {s a b : List UInt8} (h : smallL a = smallL b) : getL s a = getL s b := vals_name h _
theorem rHops_own {w0 w : World} {L : List Piece} (O : Own w0 w L) (s : List UInt8) (hs : s.length ≤ 10000000) {r : Nat} (hr : hopsN s = r) :
    Calls Tryd.prog 27 #[.string ⟨s.toArray⟩] w fun e w' => e = .returned (.int .i64 r) ∧ Own w0 w' L := by
  obtain ⟨g, hg⟩ : ∃ g, getL s [114, 101, 99, 101, 105, 118, 101, 100] = g := ⟨_, rfl⟩
  have hgr : g.length = r := by rw [← hr, ← hg, getL_small (b := recN) (by decide)]; rfl
  go_enter Tryd.func27, Tryd.ntmps27
  go_wp2_with fail
  refine (rGet_own O s [114, 101, 99, 101, 105, 118, 101, 100] hs (by decide) hg).mono ?_
  clear O hr
  rintro e w1 ⟨a, cap, rfl, O⟩
  rw [hgr] at O ⊢
  go_wp2
  go_ret
  exact ⟨rfl, O.drop⟩
set_option maxHeartbeats 1000000 in
theorem rPlain_own {w0 w : World} {L : List Piece} (O : Own w0 w L) (s : List UInt8) (hs : s.length ≤ 10000000) {r : Bool} (hr : plainB s = r) :
    Calls Tryd.prog 26 #[.string ⟨s.toArray⟩] w fun e w' => e = .returned (.bool r) ∧ Own w0 w' L := by
  obtain ⟨g, hg⟩ : ∃ g, getL s [116, 108, 115, 45, 114, 101, 113, 117, 105, 114, 101, 100] = g := ⟨_, rfl⟩
  have HR : Hid (oneNo g = r) := by unfold Hid; rw [← hr, ← hg, getL_small (b := tlsN) (by decide)]; rfl
  have HB := Lib.hid (fun v (h : v ∈ g) => getL_mem (s := s) (name := [116, 108, 115, 45, 114, 101, 113, 117, 105, 114, 101, 100]) (by rw [hg]; exact h))
  clear hr
  go_enter Tryd.func26, Tryd.ntmps26
  go_wp2_with fail
  refine (rGet_own O s [116, 108, 115, 45, 114, 101, 113, 117, 105, 114, 101, 100] hs (by decide) hg).mono ?_
  clear O hg
  rintro e w1 ⟨a, cap, rfl, O⟩
  by_cases h1 : g.length = 1
  · obtain ⟨v, rfl⟩ : ∃ v, g = [v] := List.length_eq_one_iff.1 h1
    obtain ⟨-, b, rfl, c0, -⟩ := O.strsAt 0 (by simp)
    have hv := HB.out v (by simp)
    have fin : (smallL v == smallL [110, 111]) = r := by
      rw [← HR.out]
      show _ = (smallL v == smallL noN)
      rw [show smallL noN = smallL [110, 111] by decide]
    have LK := fun w => rlike_any v [110, 111] (by omega) w
    simp only [fin] at LK
    have LKH := Lib.hid LK
    simp only [List.length_singleton, List.getElem_cons_zero] at c0 ⊢
    clear HB HR h1 fin LK
    go_wp2_with fail
    refine (LKH.out _).mono ?_
    rintro e w2 ⟨rfl, j, rfl⟩
    have O2 := (O.drewN j).drop
    clear O LKH
    go_wp2
    go_ret
    exact ⟨rfl, O2⟩
  · have fin : r = false := by
      rw [← HR.out]
      match g, h1 with
      | [], _ => rfl
      | [v], h => exact absurd rfl h
      | _ :: _ :: _, _ => rfl
    subst fin
    have h1' : ((g.length : Int) == 1) = false := by simp; omega
    clear HR HB
    go_wp2
    go_ret
    exact ⟨rfl, O.drop⟩
theorem colon_name {nm : List UInt8} (h : nm ≠ []) : ((colonN (nm ++ [58]) : Int) != (nm.length : Int)) = !namedB nm := by
  cases hb : namedB nm with
  | true =>
    obtain ⟨b1, b2, -⟩ := begL_named (t := []) hb
    have : colonN (nm ++ [58]) = nm.length := by unfold colonN; rw [if_pos b1, b2]
    simp [this]
  | false =>
    have : colonN (nm ++ [58]) ≠ nm.length := by
      intro e
      have h0 : colonN (nm ++ [58]) ≠ 0 := by
        rw [e]
        intro q
        exact h (List.eq_nil_of_length_eq_zero q)
      obtain ⟨c1, -, c2⟩ := colonN_pos h0
      rw [e, List.take_left] at c2
      unfold begB at c1
      rw [c2, Bool.and_eq_true, hb] at c1
      exact absurd c1.2 (by simp)
    simp only [Bool.not_false, bne_iff_ne, ne_eq]
    omega
end Go.Proofs.YtnkcanhkdfckmaaDoor
