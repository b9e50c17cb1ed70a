/- disk: Copy. -/
import Derived.Test.YtnlppcjfpmnahaaGreatDoorDiskD
namespace Go.Proofs.YtnlppcjfpmnahaaGreatDoor
set_option linter.all false
open Go.RowKit Go.Maps

theorem below_chg {w w' : World} (h : Below w.heap.size w w') : Chg [] w w' := ⟨h.os, h.tape, h.output, h.size, fun k hk _ => h.block k hk⟩
theorem clone_own {w0 w : World} {L : List Piece} {b n : Nat} {f : Int → Option (List UInt8)} (O : Own w0 w (mp b n f :: L)) :
    Calls Tryz.prog 44 #[.map (some b)] w fun e w' => ∃ c, e = .returned (.map (some c)) ∧ Own w0 w' (mp c n f :: mp b n f :: L) := by
  obtain ⟨D, h1, h2⟩ := O.mapped
  refine (AnyW.maps_Clone_owns Tryz.cloneA 3 _ b n D w h1).mono ?_
  rintro e w' ⟨rfl, r1, r2, r3⟩
  exact ⟨_, rfl, O.new (below_chg r3) (mp w.heap.size n f) (F := [w.heap.size]) ⟨⟨D, r1, h2⟩, O.size, rfl⟩ (by simp)⟩
theorem setc {w : World} {a p : Addr} {v : Value} (u : Value) (h : p.block ≠ a.block) (hc : w.cell? p = some v) : (w.setCell a u).cell? p = some v :=
  (World.cell?_of_block (Below.heap_setCell _ _ _ _ h)).trans hc
theorem copy_nil (w : World) : Calls Tryz.prog 28 #[.pointer none] w fun e w' => e = .returned (.pointer none) ∧ w = w' := by
  go_enter Tryz.func28, Tryz.ntmps28
  go_wp2
  go_ret
  exact ⟨rfl, rfl⟩
set_option maxHeartbeats 2000000 in
theorem copy_own {w0 w : World} {L : List Piece} {p : Value} {m : Dk} (O : Own w0 w (dk p m :: L)) :
    Calls Tryz.prog 28 #[p] w fun e w' => ∃ a : Nat, e = .returned (.pointer (some ⟨a, 0, none⟩)) ∧ Own w0 w' (dk (.pointer (some ⟨a, 0, none⟩)) m :: dk p m :: L) := by
  obtain ⟨b, bn, bw, hp, U⟩ := O.dkE
  subst hp
  obtain ⟨c0, c1, c2, c3, c4, c5, fr⟩ := U.dkAt
  clear O fr
  go_enter Tryz.func28, Tryz.ntmps28
  go_wp2_with fail
  have O1 := U.newBox (m.cells bn bw) 73
  obtain ⟨c, hc⟩ : ∃ c, c = w.heap.size := ⟨_, rfl⟩
  obtain ⟨W1, hW1⟩ : ∃ W1, W1 = w.alloc (.cells (m.cells bn bw) 73) := ⟨_, rfl⟩
  have hW2 : W1 = w.alloc (.cells #[.int .i64 m.n, .map (some bn), .map (some bw), .int .i64 m.ops, .int .i64 m.left, .bool m.off] 73) := hW1
  rw [← hW2, ← hc]
  rw [← hW1, ← hc] at O1
  have hne : b ≠ c := by have := U.boxlt; omega
  clear hW1 hW2 hc c0 c1 c2 c3 c4 c5 U
  have d1 : W1.cell? ⟨b, 1, none⟩ = some (.map (some bn)) := (O1.pick 1).cell 1
  have d2 : W1.cell? ⟨b, 2, none⟩ = some (.map (some bw)) := (O1.pick 1).cell 2
  have O1d : Own w0 W1.drew (mp bn m.cn m.now :: box c (m.cells bn bw) 73 :: box b (m.cells bn bw) 73 :: mp bw m.cw m.was :: L) := O1.drew.pick 2
  go_region_held3 (fun w' => w'.cell? ⟨b, 1, none⟩ = some (.map (some bn)) ∧ w'.cell? ⟨b, 2, none⟩ = some (.map (some bw)))
    (first
      | exact ⟨d1, d2⟩
      | exact ⟨(Q2.pick 4).cell 1, (Q2.pick 4).cell 2⟩
      | exact ⟨k1, k2⟩
      | exact ⟨setc _ hne k1, setc _ hne k2⟩
      | exact ⟨setc _ hne (setc _ hne k1), setc _ hne (setc _ hne k2)⟩)
    (first
      | (go_at_call 44; (with_reducible refine (clone_own (b := bn) O1d).mono ?_); rintro e w2 ⟨e1, rfl, Q1⟩; have Q2 : Own w0 w2 (mp bw m.cw m.was :: mp e1 m.cn m.now :: mp bn m.cn m.now :: box c (m.cells bn bw) 73 :: box b (m.cells bn bw) 73 :: L) := Q1.pick 4; clear Q1)
      | (go_at_call 44; (with_reducible refine (clone_own (b := bw) Q2).mono ?_); rintro e w3 ⟨e2, rfl, Q3⟩; have k1 : w3.cell? ⟨b, 1, none⟩ = some (.map (some bn)) := (Q3.pick 5).cell 1; have k2 : w3.cell? ⟨b, 2, none⟩ = some (.map (some bw)) := (Q3.pick 5).cell 2; have g1 : w3.cell? ⟨c, 1, none⟩ = some (.map (some bn)) := (Q3.pick 4).cell 1; have g2 : w3.cell? ⟨c, 2, none⟩ = some (.map (some bw)) := (Q3.pick 4).cell 2; have gf : ∀ o, w3.frozen? ⟨c, o, none⟩ = false := fun o => (Q3.pick 4).free o))
  have O4 : Own w0 ((w3.setCell ⟨c, 1, none⟩ (.map (some e1))).setCell ⟨c, 2, none⟩ (.map (some e2))) (box c (m.cells e1 e2) 73 :: mp e1 m.cn m.now :: mp e2 m.cw m.was :: box b (m.cells bn bw) 73 :: mp bn m.cn m.now :: mp bw m.cw m.was :: L) := (((Q3.pick 4).set 1 (.map (some e1))).set 2 (.map (some e2))).selK 6 [0, 3, 1, 5, 4, 2]
  have O5 := Own.dkI (O4.dkI.selK 4 [1, 2, 3, 0])
  clear k1 k2 g1 g2 gf O4 Q3 Q2 O1d d1 d2 O1
  go_wp2
  go_ret
  exact ⟨c, rfl, O5.selK 2 [1, 0]⟩
end Go.Proofs.YtnlppcjfpmnahaaGreatDoor
