/- log: Half, Room, Over. -/
import Derived.Test.YtnlppcjfpmnahaaGreatDoorLgP
import Derived.BigQuiet
namespace Go.Proofs.YtnlppcjfpmnahaaGreatDoor
set_option linter.all false
open Go.RowKit

theorem half_bad (s h : Int) (hb : s < 0 ∨ h < 0 ∨ 1 < h) (w : World) : Calls Tryz.prog 26 #[.int .i64 s, .int .i64 h] w fun e w' => e = .returned (.tuple #[.int .i64 0, .int .i64 0]) ∧ w = w' := by
  by_cases h1 : s < 0
  · go_enter Tryz.func26, Tryz.ntmps26
    go_wp2
    go_returns
    exact ⟨rfl, rfl⟩
  by_cases h2 : h < 0
  · go_enter Tryz.func26, Tryz.ntmps26
    go_wp2
    go_returns
    exact ⟨rfl, rfl⟩
  have h3 : 1 < h := by omega
  go_enter Tryz.func26, Tryz.ntmps26
  go_wp2
  go_returns
  exact ⟨rfl, rfl⟩
theorem half_good (n : Nat) (hn : n ≤ 9223372036854775807) (h : Nat) (hh : h ≤ 1) (w : World) : Calls Tryz.prog 26 #[.int .i64 n, .int .i64 h] w fun e w' => e = .returned (.tuple #[.int .i64 ((h * (n / 2) : Nat) : Int), .int .i64 ((n / 2 : Nat) : Int)]) ∧ w = w' := by
  have h1 : ¬ (n : Int) < 0 := by omega
  have q : (n : Int).tdiv 2 = ((n / 2 : Nat) : Int) := by rw [Int.tdiv_eq_ediv_of_nonneg (by omega)]; omega
  have q2 : IntKind.i64.wrap ((n : Int).tdiv 2) = ((n / 2 : Nat) : Int) := by rw [q]; exact IntWalk.i64_in _ (by omega)
  have hc : h = 0 ∨ h = 1 := by omega
  rcases hc with rfl | rfl
  · have h2 : ¬ ((0 : Nat) : Int) < 0 := by omega
    have h3 : ¬ (1 : Int) < ((0 : Nat) : Int) := by omega
    have e : ((0 * (n / 2) : Nat) : Int) = 0 := by simp
    rw [e]
    clear e
    go_enter Tryz.func26, Tryz.ntmps26
    go_wp2
    go_returns
    exact ⟨by first | rfl | simp, rfl⟩
  · have h2 : ¬ ((1 : Nat) : Int) < 0 := by omega
    have h3 : ¬ (1 : Int) < ((1 : Nat) : Int) := by omega
    have q3 : IntKind.i64.wrap ((n / 2 : Nat) : Int) = ((n / 2 : Nat) : Int) := IntWalk.i64_in _ (by omega)
    have e : ((1 * (n / 2) : Nat) : Int) = ((n / 2 : Nat) : Int) := by simp
    rw [e]
    clear e
    generalize ((n / 2 : Nat) : Int) = z at q q2 q3 ⊢
    go_enter Tryz.func26, Tryz.ntmps26
    go_wp2
    go_returns
    exact ⟨by first | rfl | simp [q3], rfl⟩
/-- a log's block -/
def lgb (q : Nat) (l : Lg) (p : Value) : Piece := box q (l.cells p) 79
theorem room_nil (w : World) : Calls Tryz.prog 24 #[.pointer none] w fun e w' => e = .returned (.int .i64 0) ∧ w = w' := by
  go_enter Tryz.func24, Tryz.ntmps24
  go_wp2
  go_ret
  exact ⟨rfl, rfl⟩
theorem room_own {w0 w : World} {L : List Piece} {q : Nat} {l : Lg} {p : Value} (O : Own w0 w (lgb q l p :: L)) (hu : l.used ≤ l.many) (hm : l.many ≤ 1000000) :
    Calls Tryz.prog 24 #[.pointer (some ⟨q, 0, none⟩)] w fun e w' => e = .returned (.int .i64 ((l.many - l.used : Nat) : Int)) ∧ ∃ n, w' = w.drewN n := by
  have O1 : Own w0 w (box q (l.cells p) 79 :: L) := O
  have c2 : w.cell? ⟨q, 2, none⟩ = some (.int .i64 l.many) := O1.cell 2
  have c4 : w.cell? ⟨q, 4, none⟩ = some (.int .i64 l.used) := O1.cell 4
  have e : IntKind.i64.wrap ((l.many : Int) - (l.used : Int)) = (l.many : Int) - l.used := IntWalk.i64_in _ (by omega)
  have e2 : ((l.many - l.used : Nat) : Int) = (l.many : Int) - l.used := by omega
  rw [e2]
  clear O O1 e2
  go_enter Tryz.func24, Tryz.ntmps24
  go_wp2_with fail
  go_quiet (fail)
  go_wp2
  go_ret
  exact ⟨rfl, _, rfl⟩
theorem over_nil (p : Value) (w : World) : Calls Tryz.prog 25 #[.pointer none, p] w fun e w' => e = .returned (.pointer none) ∧ w = w' := by
  go_enter Tryz.func25, Tryz.ntmps25
  go_wp2
  go_ret
  exact ⟨rfl, rfl⟩
theorem over_own {w0 w : World} {L : List Piece} {q : Nat} {l : Lg} {p : Value} (O : Own w0 w (lgb q l p :: L)) (p2 : Value) (hp : ∃ x, p = .pointer x) (hp2 : ∃ x, p2 = .pointer x) :
    Calls Tryz.prog 25 #[.pointer (some ⟨q, 0, none⟩), p2] w fun e w' => ∃ q2, e = .returned (.pointer (some ⟨q2, 0, none⟩)) ∧ Own w0 w' (lgb q2 l p2 :: lgb q l p :: L) := by
  obtain ⟨x, rfl⟩ := hp
  obtain ⟨y, rfl⟩ := hp2
  have O1 : Own w0 w (box q (l.cells (.pointer x)) 79 :: L) := O
  have c0 : w.cell? ⟨q, 0, none⟩ = some (.pointer x) := O1.cell 0
  have c1 : w.cell? ⟨q, 1, none⟩ = some (.int .i64 l.first) := O1.cell 1
  have c2 : w.cell? ⟨q, 2, none⟩ = some (.int .i64 l.many) := O1.cell 2
  have c3 : w.cell? ⟨q, 3, none⟩ = some (.int .i64 l.age) := O1.cell 3
  have c4 : w.cell? ⟨q, 4, none⟩ = some (.int .i64 l.used) := O1.cell 4
  have c5 : w.cell? ⟨q, 5, none⟩ = some (.bool l.off) := O1.cell 5
  have O2 : Own w0 _ (lgb w.heap.size l (.pointer y) :: lgb q l (.pointer x) :: L) := O.newBox (l.cells (.pointer y)) 79
  unfold Lg.cells at O2
  clear O O1
  go_enter Tryz.func25, Tryz.ntmps25
  go_wp2
  go_ret
  exact ⟨_, rfl, O2⟩
end Go.Proofs.YtnlppcjfpmnahaaGreatDoor
