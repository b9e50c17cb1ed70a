/- StuffTells: the walk. -/
import Derived.Test.YtknellgmdmpabaaStuffH
import Derived.Deep.RegionHeld3
namespace Go.Proofs.Ytknellgmdmpabaa
set_option linter.all false
open Go.RowKit Go.Shelf

theorem Own.litCell {w0 w : World} {L : List Piece} {b : Nat} {ss : List (List UInt8)} {ty : TypeId} (O : Own w0 w (box b (ss.map str).toArray ty :: L)) (k : Nat) (hk : k < ss.length) : w.cell? ⟨b, k, none⟩ = some (.string ⟨ss[k].toArray⟩) := by
  rw [O.cell k]; simp [hk, str]
theorem rstuff_is {w : World} {l r : List UInt8} {er : Int} (hr : stuffV l = (r, er)) (hl : l.length ≤ 10000000) :
    Calls Try.prog 13 #[.string ⟨l.toArray⟩] w fun e w' => e = .returned (.tuple #[.string ⟨r.toArray⟩, .int .i64 er]) ∧ ∃ n, w' = w.drewN n := by
  have h := rstuff_any w l hl
  rw [hr] at h
  exact h
theorem runstuff_is {w : World} {l r q : List UInt8} {er : Int} (hr : unsV l = (r, q, er)) (hl : l.length ≤ 10000000) :
    Calls Try.prog 14 #[.string ⟨l.toArray⟩] w fun e w' => e = .returned (.tuple #[.string ⟨r.toArray⟩, .string ⟨q.toArray⟩, .int .i64 er]) ∧ ∃ n, w' = w.drewN n := by
  have h := runstuff_any w l hl
  rw [hr] at h
  exact h
theorem rdots_is {w : World} {l : List UInt8} {n : Nat} (hr : dotsN (linesB l) = n) (hl : l.length ≤ 10000000) :
    Calls Try.prog 15 #[.string ⟨l.toArray⟩] w fun e w' => e = .returned (.int .i64 (n : Int)) ∧ ∃ n, w' = w.drewN n := by
  have h := rdots_any w l hl
  rw [hr] at h
  exact h
theorem rwhole_is {w : World} {l : List UInt8} {b : Bool} (hr : wholeB (linesB l) = b) (hl : l.length ≤ 10000000) :
    Calls Try.prog 16 #[.string ⟨l.toArray⟩] w fun e w' => e = .returned (.bool b) ∧ ∃ n, w' = w.drewN n := by
  have h := rwhole_any w l hl
  rw [hr] at h
  exact h

set_option maxRecDepth 100000 in
set_option maxHeartbeats 4000000 in
theorem stuffTells_walk (w : World) (m : Int) (hm : w.cell? ⟨0, 0, none⟩ = some (.int .i64 m)) (s : List UInt8) (hs : s.length ≤ 140737488351232) (t : List UInt8) (ht : t.length ≤ 140737488351232) :
    Calls Try.prog 6 #[.string ⟨s.toArray⟩, .string ⟨t.toArray⟩] w fun e w' => e = .returned (.bool true) ∧ Below w.heap.size w w' := by
  have HM := Lib.hid hm; clear hm
  have O := Own.start w
  go_enter Try.func6, Try.ntmps6
  by_cases hl1 : 4000 < (s.length : Int)
  · go_wp2_with fail
    refine (works_any _ m HM.out).mono ?_
    rintro e w1 ⟨rfl, ch⟩
    replace O := O.pure ch; clear ch
    go_wp2
    go_ret
    exact ⟨rfl, O.below⟩
  have hl1' : ¬ 4000 < (s.length : Int) := hl1
  by_cases hl2 : 4000 < (t.length : Int)
  · go_wp2_with fail
    refine (works_any _ m HM.out).mono ?_
    rintro e w1 ⟨rfl, ch⟩
    replace O := O.pure ch; clear ch
    go_wp2
    go_ret
    exact ⟨rfl, O.below⟩
  have hl2' : ¬ 4000 < (t.length : Int) := hl2
  have hsl := stuffV_len s
  obtain ⟨⟨x, er⟩, ha⟩ : ∃ r, stuffV s = r := ⟨_, rfl⟩
  rw [ha] at hsl
  dsimp only at hsl
  have A := Lib.hid ha; clear ha
  go_wp2_with fail
  refine (stuff_is O HM.out A.out (by omega)).mono ?_
  clear O
  rintro e1 w1 ⟨rfl, O⟩
  have hxl : x.length ≤ 100000 := by omega
  have hsl2 : s.length ≤ 100000 := by omega
  have htl2 : t.length ≤ 100000 := by omega
  obtain ⟨lits, hlits⟩ : ∃ ll : List (List UInt8), ll = [s, t, s ++ [13, 10], x, x ++ t, s ++ 46 :: 13 :: 10 :: t] := ⟨_, rfl⟩
  have hll : lits.length = 6 := by rw [hlits]; rfl
  have hlb : ∀ y ∈ lits, y.length ≤ 1000000 := by
    rw [hlits]
    intro y hy
    simp only [List.mem_cons, List.not_mem_nil, or_false] at hy
    rcases hy with rfl | rfl | rfl | rfl | rfl | rfl <;> (try simp) <;> omega
  obtain ⟨b1, hb1⟩ : ∃ b, b = w1.heap.size := ⟨_, rfl⟩
  have O2 := (O.newBox (lits.map str).toArray 9)
  rw [← hb1] at O2
  have hW : w1.alloc (.cells (lits.map str).toArray 9) = w1.alloc (.cells #[.string ⟨s.toArray⟩, .string ⟨t.toArray⟩, .string ⟨(s ++ [13, 10]).toArray⟩, .string ⟨x.toArray⟩, .string ⟨(x ++ t).toArray⟩, .string ⟨(s ++ 46 :: 13 :: 10 :: t).toArray⟩] 9) := by rw [hlits]; rfl
  rw [hW] at O2
  have HLB := Lib.hid hlb
  clear hlb hlits hW O
  have O := O2; clear O2
  go_wp2_with fail
  rw [← hb1]
  clear hb1
  go_loopw [8] (fun iv wr => ∃ k : Nat, k ≤ 6 ∧ iv = .int .i64 k ∧ Own w wr [box b1 (lits.map str).toArray 9]) (fun iv _ => 6 - (intOf iv).toNat)
  case atStart => exact ⟨0, by omega, rfl, O⟩
  case round =>
    clear O
    obtain ⟨k, hk, rfl, O⟩ := hrel
    by_cases hlt : k < 6
    rotate_left
    · have hb1 : ¬ (k : Int) < 6 := by omega
      go_wp2_with fail
      refine (works_any _ m (O.chg.cell HM.out (by simp))).mono ?_
      rintro e w1 ⟨rfl, ch⟩
      replace O := O.pure ch; clear ch
      go_wp2
      go_ret
      exact ⟨rfl, O.below⟩
    have hkl : k < lits.length := by omega
    have c0 := O.litCell k hkl
    have hb1 : (k : Int) < 6 := by omega
    have hyl := HLB.out _ (List.getElem_mem hkl)
    obtain ⟨y, hy⟩ : ∃ y, y = lits[k] := ⟨_, rfl⟩
    have HY : Hid (∀ (w' : World) (L : List Piece), Own w w' (box b1 (lits.map str).toArray 9 :: L) → w'.cell? ⟨b1, k, none⟩ = some (.string ⟨y.toArray⟩)) := fun w' L h => by rw [hy]; exact h.litCell k hkl
    rw [← hy] at c0 hyl
    clear hy hkl
    obtain ⟨⟨a, e⟩, hse⟩ : ∃ r, stuffV y = r := ⟨_, rfl⟩
    obtain ⟨⟨c, d, g⟩, hue⟩ : ∃ r, unsV y = r := ⟨_, rfl⟩
    obtain ⟨nd, hnd⟩ : ∃ n, dotsN (linesB y) = n := ⟨_, rfl⟩
    obtain ⟨wh, hwh⟩ : ∃ n, wholeB (linesB y) = n := ⟨_, rfl⟩
    have SE := Lib.hid hse; have UE := Lib.hid hue; have ND := Lib.hid hnd; have WH := Lib.hid hwh
    clear hse hue hnd hwh
    go_wp2_with fail
    refine (stuff_is O HM.out SE.out (by omega)).mono ?_
    clear O c0
    rintro e1 w2 ⟨rfl, O⟩
    have c0 := HY.out _ _ O
    go_wp2_with fail
    refine (rstuff_is SE.out (by omega)).mono ?_
    clear c0
    rintro e1 w3 ⟨rfl, n3, rfl⟩
    replace O := O.drewN n3
    have c0 := HY.out _ _ O
    go_wp2_with fail
    refine (unstuff_is O HM.out UE.out (by omega)).mono ?_
    clear O c0
    rintro e1 w4 ⟨rfl, O⟩
    have c0 := HY.out _ _ O
    go_wp2_with fail
    refine (runstuff_is UE.out (by omega)).mono ?_
    clear c0
    rintro e1 w5 ⟨rfl, n5, rfl⟩
    replace O := O.drewN n5
    obtain ⟨W5, hW5⟩ : ∃ W, W = w4.drewN n5 := ⟨_, rfl⟩
    rw [← hW5] at O ⊢
    clear hW5
    have c0 := HY.out _ _ O
    have i1 := frn_str a; have i2 := frn_int e; have i3 := frn_str c; have i4 := frn_str d; have i5 := frn_int g
    have i6 := frn_int (nd : Int); have i7 : (wh != wh) = false := by simp
    go_wp2_with fail
    go_region_held3 (fun w' => w'.cell? ⟨b1, k, none⟩ = some (.string ⟨y.toArray⟩))
      (first
        | exact c0
        | exact HY.out _ _ O3
        | exact HY.out _ _ (O3.drewN _)
        | exact HY.out _ _ O2
        | exact HY.out _ _ (O2.drewN _))
      (first
        | (go_at_call 11; (with_reducible refine (dots_is O.drew HM.out ND.out (by omega)).mono ?_); rintro e1 ws ⟨rfl, O2⟩)
        | (go_at_call 15; (with_reducible refine (rdots_is ND.out (by omega)).mono ?_); rintro e1 ws2 ⟨rfl, n2, rfl⟩)
        | (go_at_call 12; (with_reducible refine (whole_is (O2.drewN _) HM.out WH.out (by omega)).mono ?_); rintro e1 ws3 ⟨rfl, O3⟩)
        | (go_at_call 16; (with_reducible refine (rwhole_is WH.out (by omega)).mono ?_); rintro e1 ws4 ⟨rfl, n4, rfl⟩))
    go_wp2
    go_roundw
    case rel => exact ⟨k + 1, by omega, by go_num, O3.drewN _⟩
    case measure => simp [intOf]; omega
end Go.Proofs.Ytknellgmdmpabaa
