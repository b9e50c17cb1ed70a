/- DiskCopies: the walk. -/
import Derived.Test.YtobflkddkplpiaaDiskFails
namespace Go.Proofs.Ytobflkddkplpiaa
set_option linter.all false
open Go.RowKit Go.Maps

theorem StAt.came {w w' : World} {g off : Nat} {s : St} {G : List Nat} (h : StAt w g off s G) (hc : Chg [] w w') : StAt w' g off s G :=
  ⟨hc.cell h.c0 (by simp), hc.cell h.c1 (by simp), hc.cell h.c2 (by simp), hc.cell h.c3 (by simp), hc.cell h.c4 (by simp), h.sl.keep hc (by simp)⟩

set_option maxRecDepth 100000 in
set_option maxHeartbeats 4000000 in
theorem diskCopies_walk {w : World} (v0 : Value) (o0 : StepsIn w v0) (v1 : Value) (o1 : StepsIn w v1) (v2 : Value) (o2 : StepsIn w v2) :
    Calls Try.prog 4 #[v0, v1, v2] w fun e w' => e = .returned (.bool true) ∧ Below w.heap.size w w' := by
  obtain ⟨l, G, hl, ll, lw⟩ := o0
  obtain ⟨l1, G1, hl1, ll1, lw1⟩ := o1
  obtain ⟨l2, G2, hl2, ll2, lw2⟩ := o2
  obtain ⟨a, cap, rfl, -⟩ := id hl
  obtain ⟨a1, cap1, rfl, -⟩ := id hl1
  obtain ⟨a2, cap2, rfl, -⟩ := id hl2
  have O := Own.start w
  have HL := Lib.hid hl; have HL1 := Lib.hid hl1; have HL2 := Lib.hid hl2; have LW := Lib.hid lw; have LW1 := Lib.hid lw1; have LW2 := Lib.hid lw2
  clear hl hl1 hl2 lw lw1 lw2
  go_enter Try.func4, Try.ntmps4
  go_wp2_with fail
  refine (works_own O).mono ?_
  clear O
  rintro e w1 ⟨rfl, O⟩
  go_wp2_with fail
  refine (long_any _ a cap l G (HL.out.keep O.chg (by simp)) ll LW.out).mono ?_
  rintro e w2 ⟨r, rfl, rfl, hr⟩
  cases r
  rotate_left
  · go_wp2_with fail
    refine (works_own O).mono ?_
    clear O
    rintro e w2 ⟨rfl, O⟩
    go_wp2
    go_ret
    exact ⟨rfl, O.below⟩
  go_wp2_with fail
  refine (long_any _ a1 cap1 l1 G1 (HL1.out.keep O.chg (by simp)) ll1 LW1.out).mono ?_
  rintro e w2 ⟨r, rfl, rfl, hr1⟩
  cases r
  rotate_left
  · go_wp2_with fail
    refine (works_own O).mono ?_
    clear O
    rintro e w2 ⟨rfl, O⟩
    go_wp2
    go_ret
    exact ⟨rfl, O.below⟩
  go_wp2_with fail
  refine (long_any _ a2 cap2 l2 G2 (HL2.out.keep O.chg (by simp)) ll2 LW2.out).mono ?_
  rintro e w2 ⟨r, rfl, rfl, hr2⟩
  cases r
  rotate_left
  · go_wp2_with fail
    refine (works_own O).mono ?_
    clear O
    rintro e w2 ⟨rfl, O⟩
    go_wp2
    go_ret
    exact ⟨rfl, O.below⟩
  replace hr := hr (by trivial)
  replace hr1 := hr1 (by trivial)
  replace hr2 := hr2 (by trivial)
  go_wp2_with fail
  refine (new_own O 9 (by omega) (by omega)).mono ?_
  clear O
  rintro e w2 ⟨bd, rfl, O⟩
  go_wp2_with fail
  refine (new_own O 9 (by omega) (by omega)).mono ?_
  clear O
  rintro e w3 ⟨ba, rfl, O⟩
  go_wp2_with fail
  refine (new_own O 9 (by omega) (by omega)).mono ?_
  clear O
  rintro e w4 ⟨bb, rfl, O⟩
  go_wp2_with fail
  go_loopw [13] (fun iv wr => ∃ (k : Nat) (m : Dk), iv = .int .i64 k ∧ k ≤ l.length ∧ m.Fit k ∧ m.n = 9 ∧ Own w wr [dk (.pointer (some ⟨bb, 0, none⟩)) m, dk (.pointer (some ⟨ba, 0, none⟩)) m, dk (.pointer (some ⟨bd, 0, none⟩)) m]) (fun iv _ => l.length - (intOf iv).toNat)
  case atStart => exact ⟨0, Dk.new 9, rfl, by omega, Fit.new (by omega), rfl, O⟩
  case round =>
    clear O
    obtain ⟨k, m, rfl, hk, hf, hn9, O⟩ := hrel
    have HF := Lib.hid hf; have HN := Lib.hid hn9; clear hf hn9
    by_cases hlt : k < l.length
    · have hb1 : (k : Int) < (l.length : Int) := by omega
      obtain ⟨g, off, e1, hc⟩ := HL.out.at hlt
      subst e1
      obtain ⟨s, hs⟩ : ∃ s, s = l[k] := ⟨_, rfl⟩
      rw [← hs] at hc
      have HC := Lib.hid hc
      clear hc
      have sw : Hid s.Wf := Lib.hid (LW.out _ (by rw [hs]; exact List.getElem_mem hlt))
      clear hs
      obtain ⟨c0, c1, c2, c3, c4, _⟩ := HC.out.came O.chg
      go_wp2_with fail
      refine (step_own (O.selK 3 [2, 0, 1]) HF.out (by omega) s sw.out HC.out.sl).mono ?_
      clear O c0 c1 c2 c3 c4
      rintro e w5 ⟨rfl, O⟩
      obtain ⟨c0, c1, c2, c3, c4, _⟩ := HC.out.came O.chg
      go_wp2_with fail
      refine (step_own (O.selK 3 [2, 0, 1]) HF.out (by omega) s sw.out HC.out.sl).mono ?_
      clear O c0 c1 c2 c3 c4
      rintro e w6 ⟨rfl, O⟩
      obtain ⟨c0, c1, c2, c3, c4, _⟩ := HC.out.came O.chg
      go_wp2_with fail
      refine (step_own (O.selK 3 [2, 0, 1]) HF.out (by omega) s sw.out HC.out.sl).mono ?_
      clear O c0 c1 c2 c3 c4
      rintro e w7 ⟨rfl, O⟩
      go_wp2
      go_roundw
      case rel => exact ⟨k + 1, m.step s, by go_num, by omega, HF.out.step sw.out, (step_n m s).trans HN.out, O⟩
      case measure => simp [intOf]; omega
    · have hb1 : ¬ (k : Int) < (l.length : Int) := by omega
      have HK : k ≤ 300 := by omega
      go_wp2_with fail
      refine (copy_own (O.selK 3 [2, 0, 1])).mono ?_
      clear O
      rintro e w5 ⟨bc, rfl, O⟩
      have F3 : Hid (m.Fit 301) := Lib.hid (HF.out.mono (by omega))
      clear HF hb1
      go_wp2_with fail
      go_loopw [15] (fun iv wr => ∃ (k : Nat) (m1 m2 : Dk), iv = .int .i64 k ∧ (k ≤ l1.length ∨ k ≤ l2.length) ∧ m1.Fit (301 + k) ∧ m2.Fit (301 + k) ∧ m1.n = 9 ∧ m2.n = 9 ∧
          Own w wr [dk (.pointer (some ⟨bd, 0, none⟩)) m1, dk (.pointer (some ⟨ba, 0, none⟩)) m1, dk (.pointer (some ⟨bc, 0, none⟩)) m2, dk (.pointer (some ⟨bb, 0, none⟩)) m2]) (fun iv _ => max l1.length l2.length - (intOf iv).toNat)
      case atStart => exact ⟨0, m, m, rfl, by omega, F3.out, F3.out, HN.out, HN.out, O.selK 4 [1, 3, 0, 2]⟩
      case round =>
        clear O F3 HN hlt hk
        obtain ⟨j, m1, m2, rfl, hj, hf1, hf2, hn1, hn2, O⟩ := hrel
        have HF1 := Lib.hid hf1; have HF2 := Lib.hid hf2; have HN1 := Lib.hid hn1; have HN2 := Lib.hid hn2; clear hf1 hf2 hn1 hn2
        by_cases hany : j < l1.length ∨ j < l2.length
        · by_cases h1 : j < l1.length
          focus
            have hb1 : (j : Int) < (l1.length : Int) := by omega
            obtain ⟨g, off, e1, hc⟩ := HL1.out.at h1
            subst e1
            obtain ⟨s, hs⟩ : ∃ s, s = l1[j] := ⟨_, rfl⟩
            rw [← hs] at hc
            have HC := Lib.hid hc
            clear hc
            have sw : Hid s.Wf := Lib.hid (LW1.out _ (by rw [hs]; exact List.getElem_mem h1))
            clear hs
            obtain ⟨c0, c1, c2, c3, c4, _⟩ := HC.out.came O.chg
            go_wp2_with fail
            refine (step_own (O.selK 4 [2, 0, 1, 3]) HF2.out (by omega) s sw.out HC.out.sl).mono ?_
            clear O c0 c1 c2 c3 c4
            rintro e w5 ⟨rfl, O⟩
            obtain ⟨c0, c1, c2, c3, c4, _⟩ := HC.out.came O.chg
            go_wp2_with fail
            refine (step_own (O.selK 4 [3, 0, 1, 2]) HF2.out (by omega) s sw.out HC.out.sl).mono ?_
            clear O c0 c1 c2 c3 c4
            rintro e w6 ⟨rfl, O⟩
            replace O := O.selK 4 [2, 3, 1, 0]
            have G2 : Hid ((m2.step s).Fit (301 + j + 1)) := Lib.hid (HF2.out.step sw.out)
            have N2 : Hid ((m2.step s).n = 9) := Lib.hid ((step_n m2 s).trans HN2.out)
            obtain ⟨M2, hM2⟩ : ∃ M, M = m2.step s := ⟨_, rfl⟩
            rw [← hM2] at O G2 N2
            clear hM2 HF2 HN2 HC sw
          rotate_left
          focus
            have hb1 : ¬ (j : Int) < (l1.length : Int) := by omega
            have hb3 : (j : Int) < (l2.length : Int) := by omega
            have G2 : Hid (m2.Fit (301 + j + 1)) := Lib.hid (HF2.out.mono (by omega))
            have N2 := HN2
            obtain ⟨M2, hM2⟩ : ∃ M, M = m2 := ⟨_, rfl⟩
            rw [← hM2] at O G2 N2
            obtain ⟨w6, hw6⟩ : ∃ x, x = wr := ⟨_, rfl⟩
            clear hM2 HF2 HN2
          all_goals
            by_cases h2 : j < l2.length
            · have hb2 : (j : Int) < (l2.length : Int) := by omega
              obtain ⟨g, off, e1, hc⟩ := HL2.out.at h2
              subst e1
              obtain ⟨s, hs⟩ : ∃ s, s = l2[j] := ⟨_, rfl⟩
              rw [← hs] at hc
              have HC := Lib.hid hc
              clear hc
              have sw : Hid s.Wf := Lib.hid (LW2.out _ (by rw [hs]; exact List.getElem_mem h2))
              clear hs
              obtain ⟨c0, c1, c2, c3, c4, _⟩ := HC.out.came O.chg
              go_wp2_with fail
              refine (step_own O HF1.out (by omega) s sw.out HC.out.sl).mono ?_
              clear O c0 c1 c2 c3 c4
              rintro e w7 ⟨rfl, O⟩
              obtain ⟨c0, c1, c2, c3, c4, _⟩ := HC.out.came O.chg
              go_wp2_with fail
              refine (step_own (O.selK 4 [1, 0, 2, 3]) HF1.out (by omega) s sw.out HC.out.sl).mono ?_
              clear O c0 c1 c2 c3 c4
              rintro e w8 ⟨rfl, O⟩
              go_wp2
              go_roundw
              case rel => exact ⟨j + 1, m1.step s, M2, by go_num, by omega, HF1.out.step sw.out, G2.out, (step_n m1 s).trans HN1.out, N2.out, O.selK 4 [1, 0, 2, 3]⟩
              case measure => simp [intOf]; omega
            · (try (exfalso; omega)) <;>
              (have hb2 : ¬ (j : Int) < (l2.length : Int) := by omega
               go_wp2
               go_roundw
               case rel => exact ⟨j + 1, m1, M2, by go_num, by omega, HF1.out.mono (by omega), G2.out, HN1.out, N2.out, O⟩
               case measure => simp [intOf]; omega)
        · have hb1 : ¬ (j : Int) < (l1.length : Int) := by omega
          have hb2 : ¬ (j : Int) < (l2.length : Int) := by omega
          have F1 : Hid (m1.Fit 601) := Lib.hid (HF1.out.mono (by omega))
          have F2 : Hid (m2.Fit 601) := Lib.hid (HF2.out.mono (by omega))
          clear HF1 HF2 hany hj
          go_wp2_with fail
          have OB := O.newBox #[.pointer (some ⟨bd, 0, none⟩), .pointer (some ⟨ba, 0, none⟩), .pointer (some ⟨bc, 0, none⟩), .pointer (some ⟨bb, 0, none⟩)] 47
          clear O
          generalize hB : wr.heap.size = B at OB ⊢
          clear hB
          go_loopw [128] (fun iv wr => ∃ (k : Nat), iv = .int .i64 k ∧ k ≤ 2 ∧
              Own w wr [box B #[.pointer (some ⟨bd, 0, none⟩), .pointer (some ⟨ba, 0, none⟩), .pointer (some ⟨bc, 0, none⟩), .pointer (some ⟨bb, 0, none⟩)] 47, dk (.pointer (some ⟨bd, 0, none⟩)) m1, dk (.pointer (some ⟨ba, 0, none⟩)) m1, dk (.pointer (some ⟨bc, 0, none⟩)) m2, dk (.pointer (some ⟨bb, 0, none⟩)) m2]) (fun iv _ => 2 - (intOf iv).toNat)
          case atStart => exact ⟨0, rfl, by omega, OB⟩
          case round =>
            clear OB
            obtain ⟨i, rfl, hi, O⟩ := hrel
            by_cases hlt : i < 2
            rotate_left
            · obtain rfl : i = 2 := by omega
              go_wp2
              go_ret
              exact ⟨rfl, O.below⟩
            have b0 : wr.cell? ⟨B, 0, none⟩ = some (.pointer (some ⟨bd, 0, none⟩)) := O.cell 0
            have b1 : wr.cell? ⟨B, 1, none⟩ = some (.pointer (some ⟨ba, 0, none⟩)) := O.cell 1
            have b2 : wr.cell? ⟨B, 2, none⟩ = some (.pointer (some ⟨bc, 0, none⟩)) := O.cell 2
            have b3 : wr.cell? ⟨B, 3, none⟩ = some (.pointer (some ⟨bb, 0, none⟩)) := O.cell 3
            obtain rfl | rfl : i = 0 ∨ i = 1 := by omega
            focus
              go_wp2_with fail
              have O3 := (O.newBox #[.pointer (some ⟨bd, 0, none⟩), .pointer (some ⟨ba, 0, none⟩)] 47).selK 6 [0, 2, 3, 1, 4, 5]
              clear O b0 b1 b2 b3
              generalize hz : wr.heap.size = z at O3 ⊢
              have FM := F1
              have NM := HN1
              obtain ⟨RR, hRR⟩ : ∃ RR : List Piece, RR = [box B #[.pointer (some ⟨bd, 0, none⟩), .pointer (some ⟨ba, 0, none⟩), .pointer (some ⟨bc, 0, none⟩), .pointer (some ⟨bb, 0, none⟩)] 47, dk (.pointer (some ⟨bc, 0, none⟩)) m2, dk (.pointer (some ⟨bb, 0, none⟩)) m2] := ⟨_, rfl⟩
              have back : Hid (∀ w', Own w w' (box z #[.pointer (some ⟨bd, 0, none⟩), .pointer (some ⟨ba, 0, none⟩)] 47 :: dk (.pointer (some ⟨bd, 0, none⟩)) m1 :: dk (.pointer (some ⟨ba, 0, none⟩)) m1 :: RR) → Own w w' [box B #[.pointer (some ⟨bd, 0, none⟩), .pointer (some ⟨ba, 0, none⟩), .pointer (some ⟨bc, 0, none⟩), .pointer (some ⟨bb, 0, none⟩)] 47, dk (.pointer (some ⟨bd, 0, none⟩)) m1, dk (.pointer (some ⟨ba, 0, none⟩)) m1, dk (.pointer (some ⟨bc, 0, none⟩)) m2, dk (.pointer (some ⟨bb, 0, none⟩)) m2]) := Lib.hid (fun w' h => by rw [hRR] at h; exact h.selK 6 [3, 1, 2, 4, 5])
              have into : ∀ w' T, T = RR → Own w w' (box z #[.pointer (some ⟨bd, 0, none⟩), .pointer (some ⟨ba, 0, none⟩)] 47 :: dk (.pointer (some ⟨bd, 0, none⟩)) m1 :: dk (.pointer (some ⟨ba, 0, none⟩)) m1 :: T) → Own w w' (box z #[.pointer (some ⟨bd, 0, none⟩), .pointer (some ⟨ba, 0, none⟩)] 47 :: dk (.pointer (some ⟨bd, 0, none⟩)) m1 :: dk (.pointer (some ⟨ba, 0, none⟩)) m1 :: RR) := fun w' T hT h => by rw [hT] at h; exact h
              replace O3 := into _ _ hRR.symm O3
              clear into
              clear hz hRR
              obtain ⟨x, hren⟩ : ∃ q, q = bd := ⟨_, rfl⟩
              subst hren
              obtain ⟨y, hren⟩ : ∃ q, q = ba := ⟨_, rfl⟩
              subst hren
              obtain ⟨mm, hren⟩ : ∃ q, q = m1 := ⟨_, rfl⟩
              subst hren
            rotate_left
            focus
              go_wp2_with fail
              have O3 := (O.newBox #[.pointer (some ⟨bc, 0, none⟩), .pointer (some ⟨bb, 0, none⟩)] 47).selK 6 [0, 4, 5, 1, 2, 3]
              clear O b0 b1 b2 b3
              generalize hz : wr.heap.size = z at O3 ⊢
              have FM := F2
              have NM := HN2
              obtain ⟨RR, hRR⟩ : ∃ RR : List Piece, RR = [box B #[.pointer (some ⟨bd, 0, none⟩), .pointer (some ⟨ba, 0, none⟩), .pointer (some ⟨bc, 0, none⟩), .pointer (some ⟨bb, 0, none⟩)] 47, dk (.pointer (some ⟨bd, 0, none⟩)) m1, dk (.pointer (some ⟨ba, 0, none⟩)) m1] := ⟨_, rfl⟩
              have back : Hid (∀ w', Own w w' (box z #[.pointer (some ⟨bc, 0, none⟩), .pointer (some ⟨bb, 0, none⟩)] 47 :: dk (.pointer (some ⟨bc, 0, none⟩)) m2 :: dk (.pointer (some ⟨bb, 0, none⟩)) m2 :: RR) → Own w w' [box B #[.pointer (some ⟨bd, 0, none⟩), .pointer (some ⟨ba, 0, none⟩), .pointer (some ⟨bc, 0, none⟩), .pointer (some ⟨bb, 0, none⟩)] 47, dk (.pointer (some ⟨bd, 0, none⟩)) m1, dk (.pointer (some ⟨ba, 0, none⟩)) m1, dk (.pointer (some ⟨bc, 0, none⟩)) m2, dk (.pointer (some ⟨bb, 0, none⟩)) m2]) := Lib.hid (fun w' h => by rw [hRR] at h; exact h.selK 6 [3, 4, 5, 1, 2])
              have into : ∀ w' T, T = RR → Own w w' (box z #[.pointer (some ⟨bc, 0, none⟩), .pointer (some ⟨bb, 0, none⟩)] 47 :: dk (.pointer (some ⟨bc, 0, none⟩)) m2 :: dk (.pointer (some ⟨bb, 0, none⟩)) m2 :: T) → Own w w' (box z #[.pointer (some ⟨bc, 0, none⟩), .pointer (some ⟨bb, 0, none⟩)] 47 :: dk (.pointer (some ⟨bc, 0, none⟩)) m2 :: dk (.pointer (some ⟨bb, 0, none⟩)) m2 :: RR) := fun w' T hT h => by rw [hT] at h; exact h
              replace O3 := into _ _ hRR.symm O3
              clear into
              clear hz hRR
              obtain ⟨x, hren⟩ : ∃ q, q = bc := ⟨_, rfl⟩
              subst hren
              obtain ⟨y, hren⟩ : ∃ q, q = bb := ⟨_, rfl⟩
              subst hren
              obtain ⟨mm, hren⟩ : ∃ q, q = m2 := ⟨_, rfl⟩
              subst hren
            all_goals
              have hdl : Hid (mm.dirty.length ≤ maxLen) := Lib.hid (Nat.le_trans (dirty_len (FM.out.small (by omega))) (by decide))
              have z0 : (wr.alloc _).cell? ⟨z, 0, none⟩ = some _ := O3.cell 0
              have z1 : (wr.alloc _).cell? ⟨z, 1, none⟩ = some _ := O3.cell 1
              have FS := Lib.hid (FM.out.small (by omega))
              have A1 : Own w (wr.alloc _).drew (dk (.pointer (some ⟨x, 0, none⟩)) mm :: dk (.pointer (some ⟨y, 0, none⟩)) mm :: box z #[.pointer (some ⟨x, 0, none⟩), .pointer (some ⟨y, 0, none⟩)] 47 :: RR) := O3.drew.selK 3 [1, 2, 0]
              have A2 : Own w (wr.alloc _).drew (dk (.pointer (some ⟨y, 0, none⟩)) mm :: dk (.pointer (some ⟨x, 0, none⟩)) mm :: box z #[.pointer (some ⟨x, 0, none⟩), .pointer (some ⟨y, 0, none⟩)] 47 :: RR) := O3.drew.selK 3 [2, 1, 0]
              clear O3
              go_region_held3 (fun w' => w'.cell? ⟨z, 0, none⟩ = some (.pointer (some ⟨x, 0, none⟩)) ∧ w'.cell? ⟨z, 1, none⟩ = some (.pointer (some ⟨y, 0, none⟩)))
                (first
                  | exact ⟨z0, z1⟩
                  | exact ⟨q0, q1⟩
                  | exact ⟨q2, q3⟩
                  | exact ⟨q4, q5⟩)
                (first
                  | (go_at_call 12; (with_reducible refine (on_any A1).mono ?_); rintro e ws ⟨rfl, rfl⟩)
                  | (go_at_call 12; (with_reducible refine (on_any A2).mono ?_); rintro e ws ⟨rfl, rfl⟩)
                  | (go_at_call 24; (with_reducible refine (ops_any A1).mono ?_); rintro e ws ⟨rfl, rfl⟩)
                  | (go_at_call 24; (with_reducible refine (ops_any A2).mono ?_); rintro e ws ⟨rfl, rfl⟩)
                  | (go_at_call 17; (with_reducible refine (dirty_dk A1 FS.out FM.out.ok.dom).mono ?_); rintro e ws ⟨da, dcap, rfl, O4⟩;
                      have B2 : Own w ws (dk (.pointer (some ⟨y, 0, none⟩)) mm :: nums (.slice da mm.dirty.length dcap) mm.dirty :: dk (.pointer (some ⟨x, 0, none⟩)) mm :: box z #[.pointer (some ⟨x, 0, none⟩), .pointer (some ⟨y, 0, none⟩)] 47 :: RR) := O4.selK 3 [2, 0, 1];
                      have q0 : ws.cell? ⟨z, 0, none⟩ = some (.pointer (some ⟨x, 0, none⟩)) := (O4.selK 4 [3]).cell 0;
                      have q1 : ws.cell? ⟨z, 1, none⟩ = some (.pointer (some ⟨y, 0, none⟩)) := (O4.selK 4 [3]).cell 1)
                  | (go_at_call 17; (with_reducible refine (dirty_dk B2 FS.out FM.out.ok.dom).mono ?_); rintro e ws2 ⟨db, dcap2, rfl, O5⟩;
                      have B3 : Own w ws2 (nums (.slice da mm.dirty.length dcap) mm.dirty :: nums (.slice db mm.dirty.length dcap2) mm.dirty :: dk (.pointer (some ⟨x, 0, none⟩)) mm :: dk (.pointer (some ⟨y, 0, none⟩)) mm :: box z #[.pointer (some ⟨x, 0, none⟩), .pointer (some ⟨y, 0, none⟩)] 47 :: RR) := O5.selK 4 [2, 0, 3, 1];
                      have q2 : ws2.cell? ⟨z, 0, none⟩ = some (.pointer (some ⟨x, 0, none⟩)) := (O5.selK 5 [4]).cell 0;
                      have q3 : ws2.cell? ⟨z, 1, none⟩ = some (.pointer (some ⟨y, 0, none⟩)) := (O5.selK 5 [4]).cell 1)
                  | (go_at_call 25; (with_reducible refine (ints_own B3 _ _ _ _ O5.numsSl hdl.out hdl.out true (decide_eq_true rfl)).mono ?_); rintro e ws3 ⟨rfl, O6⟩;
                      have q4 : ws3.cell? ⟨z, 0, none⟩ = some (.pointer (some ⟨x, 0, none⟩)) := (O6.selK 5 [4]).cell 0;
                      have q5 : ws3.cell? ⟨z, 1, none⟩ = some (.pointer (some ⟨y, 0, none⟩)) := (O6.selK 5 [4]).cell 1))
              clear z0 z1 A1 A2 B2 B3 O4 O5 q0 q1 q2 q3 q4 q5
              have O7 : Own w ws3 (box z #[.pointer (some ⟨x, 0, none⟩), .pointer (some ⟨y, 0, none⟩)] 47 :: dk (.pointer (some ⟨x, 0, none⟩)) mm :: dk (.pointer (some ⟨y, 0, none⟩)) mm :: RR) := O6.selK 5 [4, 2, 3]
              clear O6
              go_wp2_with fail
              go_loopw [18] (fun iv wr => ∃ (at0 : Nat), iv = .int .i64 at0 ∧ at0 ≤ 9 ∧ Own w wr (box z #[.pointer (some ⟨x, 0, none⟩), .pointer (some ⟨y, 0, none⟩)] 47 :: dk (.pointer (some ⟨x, 0, none⟩)) mm :: dk (.pointer (some ⟨y, 0, none⟩)) mm :: RR)) (fun iv _ => 9 - (intOf iv).toNat)
              case atStart => exact ⟨0, rfl, by omega, O7⟩
              case round =>
                clear O7
                obtain ⟨at0, rfl, hat, O⟩ := hrel
                by_cases h9 : at0 < 9
                · have hb9 : (at0 : Int) < 9 := by omega
                  have z0 : wr.cell? ⟨z, 0, none⟩ = some (.pointer (some ⟨x, 0, none⟩)) := O.cell 0
                  have z1 : wr.cell? ⟨z, 1, none⟩ = some (.pointer (some ⟨y, 0, none⟩)) := O.cell 1
                  go_wp2_with fail
                  refine (read_own (O.pick 1) at0 (I64.nat (by omega))).mono ?_
                  clear O z0 z1
                  rintro e w9 ⟨rfl, O⟩
                  have z0 : w9.cell? ⟨z, 0, none⟩ = some (.pointer (some ⟨x, 0, none⟩)) := (O.pick 1).cell 0
                  have z1 : w9.cell? ⟨z, 1, none⟩ = some (.pointer (some ⟨y, 0, none⟩)) := (O.pick 1).cell 1
                  go_wp2_with fail
                  refine (read_own (O.pick 2) at0 (I64.nat (by omega))).mono ?_
                  clear O z0 z1
                  rintro e w10 ⟨rfl, O⟩
                  replace O := O.selK 3 [2, 1, 0]
                  go_wp2
                  go_roundw
                  case rel => exact ⟨at0 + 1, by go_num, by omega, O⟩
                  case measure => simp [intOf]; omega
                · have hb9 : ¬ (at0 : Int) < 9 := by omega
                  have O := back.out _ O
                  go_wp2
                  go_roundw
                  case rel => first | exact ⟨1, rfl, by omega, O⟩ | exact ⟨2, rfl, by omega, O⟩
                  case measure => simp [intOf]
end Go.Proofs.Ytobflkddkplpiaa
