/- DiskPlays: the walk. -/
import Derived.Test.YtobflkddkplpiaaPlayH
import Derived.Test.YtobflkddkplpiaaDiskCopies
namespace Go.Proofs.Ytobflkddkplpiaa
set_option linter.all false
open Go.RowKit Go.Maps

def LongPost2 (w : World) (l : List St) (e : Ending) (w' : World) : Prop := ∃ r, e = .returned (.bool r) ∧ w = w' ∧ (r = false → l.length ≤ 300 ∧ ∀ s ∈ l, s.keep.length ≤ 3000)
set_option maxRecDepth 100000 in
set_option maxHeartbeats 1000000 in
theorem long_keep (w : World) (a : Option Addr) (cap : Nat) (l : List St) (G : List Nat) (hv : StepsR w (.slice a l.length cap) l G) (hl : l.length ≤ maxLen) (hwf : ∀ s ∈ l, s.Wf) :
    Calls Try.prog 9 #[.slice a l.length cap] w (LongPost2 w l) := by
  have hl2 : l.length ≤ 9223372036854775807 := hl
  have HV := Lib.hid hv
  have HW := Lib.hid hwf
  clear hv hl hwf
  go_enter Try.func9, Try.ntmps9
  go_wp2_with fail
  go_loopw [3, 4] (fun nv iv wr => ∃ k n : Nat, k ≤ l.length ∧ n ≤ 6100 ∧ 10 * k ≤ n ∧ (n < 3000 → ∀ j (hj : j < l.length), j < k → (l[j]'hj).keep.length ≤ 3000) ∧ nv = .int .i64 n ∧ iv = .int .i64 k ∧ wr = w) (fun nv iv _ => l.length - (intOf iv).toNat)
  case atStart => exact ⟨0, 0, by omega, by omega, by omega, fun _ _ _ h => by omega, rfl, rfl, rfl⟩
  case round =>
    obtain ⟨k, n, hk, hn, hkn, hall, rfl, rfl, rfl⟩ := hrel
    have HA := Lib.hid hall
    clear hall
    by_cases hlt : k < l.length
    · have hb1 : (k : Int) < (l.length : Int) := by omega
      by_cases hlt2 : n < 3000
      · have hb2 : (n : Int) < 3000 := by omega
        obtain ⟨g, off, e1, hc⟩ := HV.out.at hlt
        subst e1
        obtain ⟨s, hs⟩ : ∃ s, s = l[k] := ⟨_, rfl⟩
        rw [← hs] at hc
        have c4 := hc.c4
        have sw : s.Wf := HW.out _ (by rw [hs]; exact List.getElem_mem hlt)
        have hkl : s.keep.length ≤ 9223372036854775807 := sw.keep.1
        obtain ⟨q, hq⟩ : ∃ q : Nat, q = min 3000 s.keep.length := ⟨_, rfl⟩
        have hq2 : min (3000 : Int) (s.keep.length : Int) = (q : Int) := by omega
        have hq3 : q ≤ 3000 := by omega
        have hq4 : (s.keep.length : Int) ≤ 9223372036854775807 := by omega
        have HK : Hid (n + 10 + q < 3000 → ∀ j (hj : j < l.length), j < k + 1 → (l[j]'hj).keep.length ≤ 3000) := Lib.hid (fun h3 j hj hjk => by
          by_cases e : j = k
          · subst e; rw [← hs]; omega
          · exact HA.out (by omega) j hj (by omega))
        clear hs sw hc hq
        go_wp2_with fail
        exact ⟨⟨k + 1, n + 10 + q, by omega, by omega, by omega, HK.out, by go_num, by go_num, trivial⟩, by simp [intOf]; omega⟩
      · have hb2 : ¬ (n : Int) < 3000 := by omega
        have hb3 : (3000 : Int) ≤ (n : Int) := by omega
        go_wp2
        go_ret
        exact ⟨true, rfl, rfl, by simp⟩
    · have hb1 : ¬ (k : Int) < (l.length : Int) := by omega
      by_cases hlt2 : n < 3000
      · have hb3 : ¬ (3000 : Int) ≤ (n : Int) := by omega
        go_wp2
        go_ret
        exact ⟨false, rfl, rfl, fun _ => ⟨by omega, fun s hs => by
          obtain ⟨j, hj, rfl⟩ := List.getElem_of_mem hs
          exact HA.out hlt2 j hj (by omega)⟩⟩
      · have hb3 : (3000 : Int) ≤ (n : Int) := by omega
        go_wp2
        go_ret
        exact ⟨true, rfl, rfl, by simp⟩

set_option maxRecDepth 100000 in
set_option maxHeartbeats 8000000 in
theorem diskPlays_walk {w : World} (n : Int) (hn : (Lit.int .i64 n).wf = true) (v1 : Value) (o1 : StepsIn w v1) :
    Calls Try.prog 6 #[.int .i64 n, v1] w fun e w' => e = .returned (.bool true) ∧ Below w.heap.size w w' := by
  obtain ⟨l, G, hl, ll, lw⟩ := o1
  obtain ⟨a, cap, rfl, -⟩ := id hl
  have O := Own.start w
  have HL := Lib.hid hl; have LW := Lib.hid lw
  clear hl lw
  go_enter Try.func6, Try.ntmps6
  go_wp2_with fail
  refine (long_keep _ a cap l G (HL.out.keep O.chg (by simp)) ll LW.out).mono ?_
  rintro e w2 ⟨r, rfl, rfl, hr⟩
  cases r
  rotate_left
  · go_wp2_with fail
    refine (works_own O).mono ?_
    clear O
    rintro e w2 ⟨rfl, O⟩
    go_wp2
    go_ret
    exact ⟨rfl, O.below⟩
  obtain ⟨hr, hkp⟩ := hr (by trivial)
  have HKP := Lib.hid hkp
  clear hkp
  by_cases h40 : 40 < n
  · by_cases h1024 : n ≤ 1024
    · go_wp2_with fail
      refine (works_own O).mono ?_
      clear O
      rintro e w2 ⟨rfl, O⟩
      go_wp2
      go_ret
      exact ⟨rfl, O.below⟩
    · go_wp2_with fail
      refine (new_bad n (.inr (by omega)) _).mono ?_
      rintro e w2 ⟨rfl, rfl⟩
      go_wp2_with fail
      refine (xnew_bad n (.inr (by omega)) _).mono ?_
      rintro e w2 ⟨rfl, rfl⟩
      go_wp2_with fail
      refine (works_own O).mono ?_
      clear O
      rintro e w2 ⟨rfl, O⟩
      go_wp2
      go_ret
      exact ⟨rfl, O.below⟩
  by_cases h1 : n < 1
  · go_wp2_with fail
    refine (new_bad n (.inl h1) _).mono ?_
    rintro e w2 ⟨rfl, rfl⟩
    go_wp2_with fail
    refine (xnew_bad n (.inl h1) _).mono ?_
    rintro e w2 ⟨rfl, rfl⟩
    go_wp2_with fail
    refine (works_own O).mono ?_
    clear O
    rintro e w2 ⟨rfl, O⟩
    go_wp2
    go_ret
    exact ⟨rfl, O.below⟩
  obtain ⟨N, rfl⟩ : ∃ N : Nat, n = (N : Int) := ⟨n.toNat, by omega⟩
  have hN1 : 1 ≤ N := by omega
  have hN40 : N ≤ 40 := by omega
  go_wp2_with fail
  refine (new_own O N (by omega) (by omega)).mono ?_
  clear O
  rintro e w2 ⟨bd, rfl, O⟩
  go_wp2_with fail
  refine (xnew_own O N (by omega) (by omega)).mono ?_
  clear O
  rintro e w3 ⟨bx, rfl, O⟩
  clear h40 h1
  go_wp2_with fail
  go_loopw [9] (fun iv wr => ∃ (i : Nat) (m : Dk), iv = .int .i64 i ∧ i ≤ l.length ∧ m.Fit i ∧ m.n = N ∧ Own w wr [dk (.pointer (some ⟨bd, 0, none⟩)) m, xk (.pointer (some ⟨bx, 0, none⟩)) m]) (fun iv _ => l.length - (intOf iv).toNat)
  case atStart => exact ⟨0, Dk.new N, rfl, by omega, Fit.new (by omega), rfl, O.selK 2 [1, 0]⟩
  case round =>
    clear O
    obtain ⟨i, m, rfl, hi, hf, hmn, O⟩ := hrel
    have HF := Lib.hid hf; have HN := Lib.hid hmn
    clear hf hmn
    by_cases hlt : i < l.length
    rotate_left
    · have hb1 : ¬ (i : Int) < (l.length : Int) := by omega
      go_wp2_with fail
      refine (works_own O).mono ?_
      clear O
      rintro e w2 ⟨rfl, O⟩
      go_wp2
      go_ret
      exact ⟨rfl, O.below⟩
    have hb1 : (i : Int) < (l.length : Int) := by omega
    obtain ⟨g, off, e1, hc⟩ := HL.out.at hlt
    subst e1
    obtain ⟨s, hs⟩ : ∃ s, s = l[i] := ⟨_, rfl⟩
    rw [← hs] at hc
    have HC := Lib.hid hc
    clear hc
    have sw : Hid s.Wf := Lib.hid (LW.out _ (by rw [hs]; exact List.getElem_mem hlt))
    have skl : Hid (s.keep.length ≤ 100000000) := Lib.hid (Nat.le_trans (HKP.out s (by rw [hs]; exact List.getElem_mem hlt)) (by omega))
    have FM := Lib.hid (HF.out.step sw.out)
    have NM := Lib.hid ((step_n m s).trans HN.out)
    obtain ⟨M, hM⟩ : ∃ M, M = m.step s := ⟨_, rfl⟩
    rw [← hM] at FM NM
    have HM := Lib.hid hM
    clear hs hM
    have hi3 : i ≤ 300 := by omega
    by_cases h9 : i % 9 = 4
    · have i9 : ((i : Int) % 9 == 4) = true := by simp; omega
      clear h9
      by_cases h3 : i % 3 = 0
      · have i3 : ((i : Int) % 3 == 0) = true := by simp; omega
        clear h3
        go_wp2_with fail
        refine (copy_own O).mono ?_
        clear O
        rintro e w5 ⟨bc, rfl, O⟩
        go_wp2_with fail
        refine (xcopy_own (O.selK 3 [2, 0, 1]) (by rw [HN.out]; omega) (by rw [HN.out]; omega)).mono ?_
        clear O
        rintro e w6 ⟨bz, rfl, O⟩
        replace O := O.selK 4 [3, 1, 2, 0]
        obtain ⟨c0, c1, c2, c3, c4, _⟩ := HC.out.came O.chg
        go_wp2_with fail
        refine (does_own O HF.out (by omega) s sw.out HC.out.sl skl.out).mono ?_
        clear O c0 c1 c2 c3 c4
        rintro e w7 ⟨rfl, O⟩
        rw [← HM.out] at O
        go_wp2_with fail
        refine (like_own O FM.out (by omega) _).mono ?_
        clear O
        rintro e w8 ⟨rfl, O⟩
        go_wp2_with fail
        refine (like_own (O.selK 4 [2, 3, 0, 1]) HF.out (by omega) true).mono ?_
        clear O
        rintro e w9 ⟨rfl, O⟩
        replace O := O.selK 4 [2, 3]
        go_wp2
        go_roundw
        case rel => exact ⟨i + 1, M, by go_num, by omega, FM.out, NM.out, O⟩
        case measure => simp [intOf]; omega
      · have i3 : ((i : Int) % 3 == 0) = false := by simp; omega
        clear h3
        go_wp2_with fail
        refine (copy_own O).mono ?_
        clear O
        rintro e w5 ⟨bc, rfl, O⟩
        go_wp2_with fail
        refine (xcopy_own (O.selK 3 [2, 0, 1]) (by rw [HN.out]; omega) (by rw [HN.out]; omega)).mono ?_
        clear O
        rintro e w6 ⟨bz, rfl, O⟩
        replace O := O.selK 4 [3, 1, 2, 0]
        obtain ⟨c0, c1, c2, c3, c4, _⟩ := HC.out.came O.chg
        go_wp2_with fail
        refine (does_own O HF.out (by omega) s sw.out HC.out.sl skl.out).mono ?_
        clear O c0 c1 c2 c3 c4
        rintro e w7 ⟨rfl, O⟩
        rw [← HM.out] at O
        go_wp2_with fail
        refine (like_own O FM.out (by omega) _).mono ?_
        clear O
        rintro e w8 ⟨rfl, O⟩
        go_wp2_with fail
        refine (like_own (O.selK 4 [2, 3, 0, 1]) HF.out (by omega) true).mono ?_
        clear O
        rintro e w9 ⟨rfl, O⟩
        replace O := O.selK 4 [2, 3]
        go_wp2
        go_roundw
        case rel => exact ⟨i + 1, M, by go_num, by omega, FM.out, NM.out, O⟩
        case measure => simp [intOf]; omega
    · have i9 : ((i : Int) % 9 == 4) = false := by simp; omega
      clear h9
      by_cases h3 : i % 3 = 0
      · have i3 : ((i : Int) % 3 == 0) = true := by simp; omega
        clear h3
        obtain ⟨c0, c1, c2, c3, c4, _⟩ := HC.out.came O.chg
        go_wp2_with fail
        refine (does_own O HF.out (by omega) s sw.out HC.out.sl skl.out).mono ?_
        clear O c0 c1 c2 c3 c4
        rintro e w7 ⟨rfl, O⟩
        rw [← HM.out] at O
        go_wp2_with fail
        refine (like_own O FM.out (by omega) _).mono ?_
        clear O
        rintro e w8 ⟨rfl, O⟩
        go_wp2
        go_roundw
        case rel => exact ⟨i + 1, M, by go_num, by omega, FM.out, NM.out, O⟩
        case measure => simp [intOf]; omega
      · have i3 : ((i : Int) % 3 == 0) = false := by simp; omega
        clear h3
        obtain ⟨c0, c1, c2, c3, c4, _⟩ := HC.out.came O.chg
        go_wp2_with fail
        refine (does_own O HF.out (by omega) s sw.out HC.out.sl skl.out).mono ?_
        clear O c0 c1 c2 c3 c4
        rintro e w7 ⟨rfl, O⟩
        rw [← HM.out] at O
        go_wp2_with fail
        refine (like_own O FM.out (by omega) _).mono ?_
        clear O
        rintro e w8 ⟨rfl, O⟩
        go_wp2
        go_roundw
        case rel => exact ⟨i + 1, M, by go_num, by omega, FM.out, NM.out, O⟩
        case measure => simp [intOf]; omega
end Go.Proofs.Ytobflkddkplpiaa
