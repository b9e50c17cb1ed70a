/- disk.Disk: the object, and what is small of it. -/
import Derived.Test.YtnlppcjfpmnahaaGreatDoorMapsR
import Derived.Test.YtnlppcjfpmnahaaGreatDoorPack
import Derived.Test.YtnlppcjfpmnahaaGreatDoorDiskShelf
namespace Go.Proofs.YtnlppcjfpmnahaaGreatDoor
set_option linter.all false
open Go.RowKit Go.Maps

def zeros : List UInt8 := List.replicate 128 0
structure Dk where
  n : Nat
  now : Int → Option (List UInt8)
  was : Int → Option (List UInt8)
  ops : Nat
  left : Nat
  off : Bool
  cn : Nat
  cw : Nat
structure Dk.Small (m : Dk) : Prop where
  n : m.n ≤ 1024
  ops : m.ops ≤ 1000000
  left : m.left ≤ 9223372036854775807
  cn : m.cn ≤ 100000000
  cw : m.cw ≤ 100000000
def Dk.get (m : Dk) (k : Int) : List UInt8 := (m.now k).getD zeros
def Dk.new (n : Nat) : Dk := ⟨n, fun _ => none, fun _ => none, 0, 0, false, 0, 0⟩
def Dk.did (m : Dk) : Dk := { m with ops := m.ops + 1, left := m.left - 1, off := if 0 < m.left then decide (m.left = 1) else m.off }
def Dk.asked (m : Dk) : Int := if m.off then 42 else 0
def Dk.cells (m : Dk) (bn bw : Nat) : Array Value := #[.int .i64 m.n, .map (some bn), .map (some bw), .int .i64 m.ops, .int .i64 m.left, .bool m.off]
def dk (p : Value) (m : Dk) : Piece :=
  ex fun x : Nat × Nat × Nat => both (fact (p = .pointer (some ⟨x.1, 0, none⟩))) (both (box x.1 (m.cells x.2.1 x.2.2) 73) (both (mp x.2.1 m.cn m.now) (mp x.2.2 m.cw m.was)))
theorem Own.dkE {w0 w : World} {L : List Piece} {p : Value} {m : Dk} (O : Own w0 w (dk p m :: L)) : ∃ b bn bw, p = .pointer (some ⟨b, 0, none⟩) ∧ Own w0 w (box b (m.cells bn bw) 73 :: mp bn m.cn m.now :: mp bw m.cw m.was :: L) := by
  obtain ⟨⟨b, bn, bw⟩, O⟩ := O.exE
  obtain ⟨hp, O⟩ := O.unpack.factE
  exact ⟨b, bn, bw, hp, ((O.unpack.pick 1).unpack.selK 3 [2, 0, 1])⟩
theorem Own.dkI {w0 w : World} {L : List Piece} {b bn bw : Nat} {m : Dk} (O : Own w0 w (box b (m.cells bn bw) 73 :: mp bn m.cn m.now :: mp bw m.cw m.was :: L)) : Own w0 w (dk (.pointer (some ⟨b, 0, none⟩)) m :: L) := by
  refine Own.exI (b, bn, bw) (Own.pack (Own.factI rfl (Own.pack (Own.selK (k := 2) ((Own.pack (O.selK 3 [1, 2, 0]))) [1, 0]))))
/-- the cells of a disk -/
structure DkAt (w : World) (b bn bw : Nat) (m : Dk) : Prop where
  c0 : w.cell? ⟨b, 0, none⟩ = some (.int .i64 m.n)
  c1 : w.cell? ⟨b, 1, none⟩ = some (.map (some bn))
  c2 : w.cell? ⟨b, 2, none⟩ = some (.map (some bw))
  c3 : w.cell? ⟨b, 3, none⟩ = some (.int .i64 m.ops)
  c4 : w.cell? ⟨b, 4, none⟩ = some (.int .i64 m.left)
  c5 : w.cell? ⟨b, 5, none⟩ = some (.bool m.off)
  fr : ∀ o, w.frozen? ⟨b, o, none⟩ = false
theorem Own.dkAt {w0 w : World} {L : List Piece} {b bn bw : Nat} {m : Dk} (O : Own w0 w (box b (m.cells bn bw) 73 :: L)) : DkAt w b bn bw m :=
  ⟨O.cell 0, O.cell 1, O.cell 2, O.cell 3, O.cell 4, O.cell 5, fun o => O.free o⟩

theorem asked_any {w0 w : World} {L : List Piece} {p : Value} {m : Dk} (O : Own w0 w (dk p m :: L)) :
    Calls Tryz.prog 35 #[p] w fun e w' => e = .returned (.int .i64 m.asked) ∧ w = w' := by
  obtain ⟨b, bn, bw, hp, U⟩ := O.dkE
  subst hp
  obtain ⟨c0, c1, c2, c3, c4, c5, fr⟩ := U.dkAt
  clear O U
  cases ho : m.off
  all_goals
    rw [ho] at c5
    have E : m.asked = if m.off then 42 else 0 := rfl
    rw [ho] at E
    have E := Lib.hid E
    clear ho
    go_enter Tryz.func35, Tryz.ntmps35
    go_wp2
    go_ret
    exact ⟨by first | rfl | (rw [E.out]; rfl), rfl⟩
theorem asked_nil (w : World) : Calls Tryz.prog 35 #[.pointer none] w fun e w' => e = .returned (.int .i64 2) ∧ w = w' := by
  go_enter Tryz.func35, Tryz.ntmps35
  go_wp2
  go_ret
  exact ⟨rfl, rfl⟩
theorem on_any {w0 w : World} {L : List Piece} {p : Value} {m : Dk} (O : Own w0 w (dk p m :: L)) :
    Calls Tryz.prog 18 #[p] w fun e w' => e = .returned (.bool (!m.off)) ∧ w = w' := by
  obtain ⟨b, bn, bw, hp, U⟩ := O.dkE
  subst hp
  obtain ⟨c0, c1, c2, c3, c4, c5, fr⟩ := U.dkAt
  clear O U
  go_enter Tryz.func18, Tryz.ntmps18
  go_wp2
  go_ret
  exact ⟨rfl, rfl⟩
theorem on_nil (w : World) : Calls Tryz.prog 18 #[.pointer none] w fun e w' => e = .returned (.bool false) ∧ w = w' := by
  go_enter Tryz.func18, Tryz.ntmps18
  go_wp2
  go_ret
  exact ⟨rfl, rfl⟩
theorem sectors_any {w0 w : World} {L : List Piece} {p : Value} {m : Dk} (O : Own w0 w (dk p m :: L)) :
    Calls Tryz.prog 37 #[p] w fun e w' => e = .returned (.int .i64 m.n) ∧ w = w' := by
  obtain ⟨b, bn, bw, hp, U⟩ := O.dkE
  subst hp
  obtain ⟨c0, c1, c2, c3, c4, c5, fr⟩ := U.dkAt
  clear O U
  go_enter Tryz.func37, Tryz.ntmps37
  go_wp2
  go_ret
  exact ⟨rfl, rfl⟩
theorem sectors_nil (w : World) : Calls Tryz.prog 37 #[.pointer none] w fun e w' => e = .returned (.int .i64 0) ∧ w = w' := by
  go_enter Tryz.func37, Tryz.ntmps37
  go_wp2
  go_ret
  exact ⟨rfl, rfl⟩
theorem ops_any {w0 w : World} {L : List Piece} {p : Value} {m : Dk} (O : Own w0 w (dk p m :: L)) :
    Calls Tryz.prog 27 #[p] w fun e w' => e = .returned (.int .i64 m.ops) ∧ w = w' := by
  obtain ⟨b, bn, bw, hp, U⟩ := O.dkE
  subst hp
  obtain ⟨c0, c1, c2, c3, c4, c5, fr⟩ := U.dkAt
  clear O U
  go_enter Tryz.func27, Tryz.ntmps27
  go_wp2
  go_ret
  exact ⟨rfl, rfl⟩
theorem ops_nil (w : World) : Calls Tryz.prog 27 #[.pointer none] w fun e w' => e = .returned (.int .i64 0) ∧ w = w' := by
  go_enter Tryz.func27, Tryz.ntmps27
  go_wp2
  go_ret
  exact ⟨rfl, rfl⟩
/-- what a Fail leaves -/
def Dk.fail (m : Dk) (k : Int) : Dk := { m with left := k.toNat }
theorem fail_any {w0 w : World} {L : List Piece} {p : Value} {m : Dk} (k : Int) (hk : k ≤ 9223372036854775807) (O : Own w0 w (dk p m :: L)) :
    Calls Tryz.prog 14 #[p, .int .i64 k] w fun e w' => e = .returned (.tuple #[]) ∧ Own w0 w' (dk p (m.fail k) :: L) := by
  obtain ⟨b, bn, bw, hp, U⟩ := O.dkE
  subst hp
  obtain ⟨c0, c1, c2, c3, c4, c5, fr⟩ := U.dkAt
  have O' : Own w0 (w.setCell ⟨b, 4, none⟩ (.int .i64 ((k.toNat : Nat) : Int))) (dk (.pointer (some ⟨b, 0, none⟩)) (m.fail k) :: L) := Own.dkI (U.set 4 (.int .i64 ((k.toNat : Nat) : Int)))
  clear O U
  have hm : ((k.toNat : Nat) : Int) = max 0 k := by omega
  rw [hm] at O'
  clear hm
  go_enter Tryz.func14, Tryz.ntmps14
  go_wp2
  go_end0
  exact ⟨rfl, O'⟩
theorem fail_nil (k : Int) (w : World) : Calls Tryz.prog 14 #[.pointer none, .int .i64 k] w fun e w' => e = .returned (.tuple #[]) ∧ w = w' := by
  go_enter Tryz.func14, Tryz.ntmps14
  go_wp2
  go_end0
  exact ⟨rfl, rfl⟩
end Go.Proofs.YtnlppcjfpmnahaaGreatDoor
