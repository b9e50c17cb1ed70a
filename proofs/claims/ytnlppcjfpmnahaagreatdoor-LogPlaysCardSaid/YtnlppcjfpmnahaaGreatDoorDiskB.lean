/- disk: New, did, at, Read, Sync. -/
import Derived.Test.YtnlppcjfpmnahaaGreatDoorDiskA
import Derived.Test.YtnlppcjfpmnahaaGreatDoorMake
namespace Go.Proofs.YtnlppcjfpmnahaaGreatDoor
set_option linter.all false
open Go.RowKit Go.Maps

theorem did_any {w0 w : World} {L : List Piece} {p : Value} {m : Dk} (O : Own w0 w (dk p m :: L)) (S : m.Small) :
    Calls Tryz.prog 36 #[p] w fun e w' => e = .returned (.tuple #[]) ∧ Own w0 w' (dk p m.did :: L) := by
  obtain ⟨b, bn, bw, hp, U⟩ := O.dkE
  subst hp
  obtain ⟨c0, c1, c2, c3, c4, c5, fr⟩ := U.dkAt
  obtain ⟨-, s1, s2, -, -⟩ := S
  by_cases h : 0 < m.left
  · have O' : Own w0 (((w.setCell ⟨b, 3, none⟩ (.int .i64 ((m.ops : Int) + 1))).setCell ⟨b, 4, none⟩ (.int .i64 ((m.left : Int) - 1))).setCell ⟨b, 5, none⟩ (.bool (decide ((m.left : Int) - 1 = 0)))) (dk (.pointer (some ⟨b, 0, none⟩)) m.did :: L) := by
      refine Own.dkI (bn := bn) (bw := bw) ?_
      have e : m.did.cells bn bw = ((((m.cells bn bw).setIfInBounds 3 (.int .i64 ((m.ops : Int) + 1))).setIfInBounds 4 (.int .i64 ((m.left : Int) - 1))).setIfInBounds 5 (.bool (decide ((m.left : Int) - 1 = 0)))) := by
        have h1 : (((m.left - 1 : Nat)) : Int) = (m.left : Int) - 1 := by omega
        have h2 : decide (m.left = 1) = decide ((m.left : Int) - 1 = 0) := by simp only [decide_eq_decide]; omega
        simp [Dk.cells, Dk.did, h, h1, h2]
      rw [e]
      exact ((U.set 3 _).set 4 _).set 5 _
    clear O U
    have h1 : (0 : Int) < (m.left : Int) := by omega
    go_enter Tryz.func36, Tryz.ntmps36
    go_wp2
    go_end0
    exact ⟨rfl, O'⟩
  · have O' : Own w0 (w.setCell ⟨b, 3, none⟩ (.int .i64 ((m.ops : Int) + 1))) (dk (.pointer (some ⟨b, 0, none⟩)) m.did :: L) := by
      refine Own.dkI (bn := bn) (bw := bw) ?_
      have e : m.did.cells bn bw = ((m.cells bn bw).setIfInBounds 3 (.int .i64 ((m.ops : Int) + 1))) := by
        have h1 : m.left = 0 := by omega
        simp [Dk.cells, Dk.did, h1]
      rw [e]
      exact U.set 3 _
    clear O U
    have h1 : ¬ (0 : Int) < (m.left : Int) := by omega
    go_enter Tryz.func36, Tryz.ntmps36
    go_wp2
    go_end0
    exact ⟨rfl, O'⟩

theorem zeros_len : zeros.length = 128 := by kernel_rfl
set_option maxRecDepth 100000 in
theorem at_any {w0 w : World} {L : List Piece} {p : Value} {m : Dk} (O : Own w0 w (dk p m :: L)) (k : Int) (hk : I64 k) :
    Calls Tryz.prog 53 #[p, .int .i64 k] w fun e w' => e = .returned (.string ⟨(m.get k).toArray⟩) ∧ Chg [] w w' := by
  obtain ⟨b, bn, bw, hp, U⟩ := O.dkE
  subst hp
  obtain ⟨c0, c1, c2, c3, c4, c5, fr⟩ := U.dkAt
  have HK := Lib.hid hk; clear hk
  have O1 := Own.start w
  obtain ⟨z, hz⟩ : ∃ z, z = zeros := ⟨_, rfl⟩
  have zl : z.length = 128 := by rw [hz]; exact zeros_len
  have hg : m.get k = (m.now k).getD z := by rw [hz]; rfl
  have hzr : z = List.replicate 128 0 := by rw [hz]; rfl
  have Z := Lib.hid hzr
  rw [hg]
  clear hz hg hzr O
  cases hn : m.now k with
  | some s =>
    go_enter Tryz.func53, Tryz.ntmps53
    go_wp2_with (at_lookup; refine wpList_look_okO rfl _ _ rfl (U.pick 1) rfl k HK.out rfl ?_; rw [hn])
    go_ret
    exact ⟨rfl, Chg.refl _ _⟩
  | none =>
    go_enter Tryz.func53, Tryz.ntmps53
    go_wp2_with (first
      | (at_lookup; refine wpList_look_okO rfl _ _ rfl (U.pick 1) rfl k HK.out rfl ?_; rw [hn])
      | (at_make; refine wpList_make_named rfl _ rfl 128 rfl (by omega) z Z.out O1 ?_; intro g w8 O8; have hcv := O8.fromBytes 128; rw [zl] at hcv))
    go_ret
    exact ⟨rfl, O8.chg⟩
theorem at_own {w0 w : World} {L : List Piece} {p : Value} {m : Dk} (O : Own w0 w (dk p m :: L)) (k : Int) (hk : I64 k) :
    Calls Tryz.prog 53 #[p, .int .i64 k] w fun e w' => e = .returned (.string ⟨(m.get k).toArray⟩) ∧ Own w0 w' (dk p m :: L) := by
  refine (at_any O k hk).mono ?_
  rintro e w' ⟨rfl, ch⟩
  exact ⟨rfl, O.pure ch⟩

/-- what a Read tells -/
def Dk.read (m : Dk) (k : Int) : List UInt8 × Int := if m.off then ([], 42) else if k < 0 ∨ (m.n : Int) ≤ k then ([], 1) else (m.get k, 0)
theorem read_own {w0 w : World} {L : List Piece} {p : Value} {m : Dk} (O : Own w0 w (dk p m :: L)) (k : Int) (hk : I64 k) :
    Calls Tryz.prog 38 #[p, .int .i64 k] w fun e w' => e = .returned (.tuple #[.string ⟨(m.read k).1.toArray⟩, .int .i64 (m.read k).2]) ∧ Own w0 w' (dk p m :: L) := by
  obtain ⟨b, bn, bw, hp, U⟩ := O.dkE
  subst hp
  obtain ⟨c0, c1, c2, c3, c4, c5, fr⟩ := U.dkAt
  have HK := Lib.hid hk; clear hk U
  cases ho : m.off
  rotate_left
  · have E : m.read k = ([], 42) := by simp [Dk.read, ho]
    have A : m.asked = 42 := by simp [Dk.asked, ho]
    rw [E]
    clear c0 c1 c2 c3 c4 c5 fr ho E
    go_enter Tryz.func38, Tryz.ntmps38
    go_wp2_with fail
    refine (asked_any O).mono ?_
    rw [A]
    rintro e w1 ⟨rfl, rfl⟩
    go_wp2
    go_ret2
    exact ⟨rfl, O⟩
  have A : m.asked = 0 := by simp [Dk.asked, ho]
  by_cases hr : k < 0 ∨ (m.n : Int) ≤ k
  · have E : m.read k = ([], 1) := by simp [Dk.read, ho, hr]
    rw [E]
    clear c1 c2 c3 c4 c5 fr ho E
    by_cases hr1 : k < 0
    all_goals
      first
      | (have hr2 : (m.n : Int) ≤ k := by omega)
      | skip
      clear hr
      go_enter Tryz.func38, Tryz.ntmps38
      go_wp2_with fail
      refine (asked_any O).mono ?_
      rw [A]
      rintro e w1 ⟨rfl, rfl⟩
      go_wp2
      go_ret2
      exact ⟨rfl, O⟩
  · have E : m.read k = (m.get k, 0) := by simp [Dk.read, ho, hr]
    rw [E]
    clear c1 c2 c3 c4 c5 fr ho E
    have hr1 : ¬ k < 0 := by omega
    have hr2 : ¬ (m.n : Int) ≤ k := by omega
    clear hr
    go_enter Tryz.func38, Tryz.ntmps38
    go_wp2_with fail
    refine (asked_any O).mono ?_
    rw [A]
    rintro e w1 ⟨rfl, rfl⟩
    go_wp2_with fail
    refine (at_own O k HK.out).mono ?_
    clear O c0
    rintro e w1 ⟨rfl, O⟩
    go_wp2
    go_ret2
    exact ⟨rfl, O⟩
theorem read_nil (k : Int) (w : World) : Calls Tryz.prog 38 #[.pointer none, .int .i64 k] w fun e w' => e = .returned (.tuple #[.string ⟨#[]⟩, .int .i64 2]) ∧ w = w' := by
  go_enter Tryz.func38, Tryz.ntmps38
  go_wp2_with fail
  refine (asked_nil _).mono ?_
  rintro e w1 ⟨rfl, rfl⟩
  go_wp2
  go_ret2
  exact ⟨rfl, rfl⟩

theorem new_bad (k : Int) (h : k < 1 ∨ 1024 < k) (w : World) : Calls Tryz.prog 9 #[.int .i64 k] w fun e w' => e = .returned (.tuple #[.pointer none, .int .i64 1]) ∧ w = w' := by
  by_cases h1 : k < 1
  all_goals
    first
    | (have h2 : 1024 < k := by omega)
    | skip
    clear h
    go_enter Tryz.func9, Tryz.ntmps9
    go_wp2
    go_ret2
    exact ⟨rfl, rfl⟩
theorem new_own {w0 w : World} {L : List Piece} (O : Own w0 w L) (n : Nat) (h1 : 1 ≤ n) (h2 : n ≤ 1024) :
    Calls Tryz.prog 9 #[.int .i64 n] w fun e w' => ∃ b : Nat, e = .returned (.tuple #[.pointer (some ⟨b, 0, none⟩), .int .i64 0]) ∧ Own w0 w' (dk (.pointer (some ⟨b, 0, none⟩)) (Dk.new n) :: L) := by
  have hmm := run_makeMap (P := Tryz.prog)
  have h3 : ¬ (n : Int) < 1 := by omega
  have h4 : ¬ (1024 : Int) < n := by omega
  have O1 := O.newMap
  have O2 := O1.newMap
  have O3 := O2.newBox #[.int .i64 n, .map (some w.heap.size), .map (some (w.alloc (.map #[] 0)).heap.size), .int .i64 0, .int .i64 0, .bool false] 73
  have O' : Own w0 _ (dk (.pointer (some ⟨_, 0, none⟩)) (Dk.new n) :: L) := Own.dkI (m := Dk.new n) (O3.selK 3 [0, 2, 1])
  have z1 : (w.alloc (.map #[] 0)).heap.size = w.heap.size + 1 := by simp
  have z2 : ((w.alloc (.map #[] 0)).alloc (.map #[] 0)).heap.size = w.heap.size + 2 := by simp
  rw [z1, z2] at O'
  clear z1 z2
  clear O O1 O2 O3
  go_enter Tryz.func9, Tryz.ntmps9
  go_wp2
  go_ret2
  exact ⟨_, rfl, O'⟩
end Go.Proofs.YtnlppcjfpmnahaaGreatDoor
