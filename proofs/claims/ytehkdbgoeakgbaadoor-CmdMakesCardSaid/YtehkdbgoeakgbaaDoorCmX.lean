/- mailroomref07: Rcpt; printed by wip/cmx.py. -/
import Derived.Test.YtehkdbgoeakgbaaDoorCmW
namespace Go.Proofs.YtehkdbgoeakgbaaDoor
set_option linter.all false
open Go.RowKit Go.Shelf

/-- what Rcpt of the document holds -/
abbrev rcptR (XB CB RB : Nat) (cs : Array Value) (fr : List UInt8) (L : List Piece) : List Piece :=
  box XB #[.int .u8 4, .string ⟨fr.toArray⟩, .slice none 0 0] 33 :: rowv 72 2 (.slice none 0 0) 0 (flatP []) :: box CB cs 36 :: box RB #[.int .u8 0, .string ⟨#[]⟩, .slice none 0 0] 33 :: L
set_option maxRecDepth 100000 in
set_option maxHeartbeats 8000000 in
theorem rrcpt7_own {w0 w : World} {L : List Piece} (O : Own w0 w L) (fr : List UInt8) (hf : fr.length ≤ 1000000) (b0 b1 b2 b3 b4 b5 : Bool) (mst : Int) (nv : Bool) :
    Calls Tryd.prog 12 #[.string ⟨fr.toArray⟩, capsV b0 b1 b2 b3 b4 b5 mst, .bool nv] w (RMade w0 L (rcptCm fr b3 nv)) := by
  unfold capsV
  have O1 := O.newBox #[.bool b0, .bool b1, .bool b2, .bool b3, .bool b4, .bool b5, .int .i64 mst] 36
  have O2 := O1.newBox #[.int .u8 0, .string ⟨#[]⟩, .slice none 0 0] 33
  have O3 := O2.newBox #[.int .u8 4, .string ⟨fr.toArray⟩, .slice none 0 0] 33
  obtain ⟨CB, hCB⟩ : ∃ b, b = w.heap.size := ⟨_, rfl⟩
  obtain ⟨RB, hRB⟩ : ∃ b, b = w.heap.size + 1 := ⟨_, rfl⟩
  obtain ⟨XB, hXB⟩ : ∃ b, b = w.heap.size + 2 := ⟨_, rfl⟩
  rw [show (((w.alloc (.cells #[.bool b0, .bool b1, .bool b2, .bool b3, .bool b4, .bool b5, .int .i64 mst] 36)).alloc (.cells #[.int .u8 0, .string ⟨#[]⟩, .slice none 0 0] 33))).heap.size = XB by rw [hXB]; simp, show (w.alloc (.cells #[.bool b0, .bool b1, .bool b2, .bool b3, .bool b4, .bool b5, .int .i64 mst] 36)).heap.size = RB by rw [hRB]; simp, ← hCB] at O3
  have O4 := (O3.nilPm 72).selK 4 [1, 0, 3, 2]
  have O5 : Own w0 _ (rcptR XB CB RB #[.bool b0, .bool b1, .bool b2, .bool b3, .bool b4, .bool b5, .int .i64 mst] fr L) := O4
  clear O O1 O2 O3 O4
  obtain ⟨R, hR⟩ : ∃ r, r = rcptCm fr b3 nv := ⟨_, rfl⟩
  rw [← hR]
  have SNO : Hid (mayCm ⟨4, fr, []⟩ = false → R = none) := fun h => by rw [hR, rcpt_alt, h]; rfl
  have SYES : Hid (mayCm ⟨4, fr, []⟩ = true → R = some ⟨4, fr, rcptPs b3 nv⟩) := fun h => by rw [hR, rcpt_alt, h]; rfl
  clear hR
  have WH : Hid (w.heap.size = CB ∧ w.heap.size + 1 = RB ∧ w.heap.size + 1 + 1 = XB) := by unfold Hid; omega
  clear hCB hRB hXB
  go_enter Tryd.func12, Tryd.ntmps12
  go_upto_region 2 with fail
  rw [WH.out.2.2, WH.out.2.1, WH.out.1]
  generalize (((w.alloc (.cells #[.bool b0, .bool b1, .bool b2, .bool b3, .bool b4, .bool b5, .int .i64 mst] 36)).alloc (.cells #[.int .u8 0, .string ⟨#[]⟩, .slice none 0 0] 33)).alloc (.cells #[.int .u8 4, .string ⟨fr.toArray⟩, .slice none 0 0] 33)) = W at O5 ⊢
  clear WH
  obtain ⟨mb, hmb⟩ : ∃ q, mayCm ⟨4, fr, []⟩ = q := ⟨_, rfl⟩
  rw [hmb] at SNO SYES
  have MY := Lib.hid (fun w' (h : Own w0 w' (rcptR XB CB RB #[.bool b0, .bool b1, .bool b2, .bool b3, .bool b4, .bool b5, .int .i64 mst] fr L)) => rmay7_own (w := w') h ⟨4, fr, []⟩ (a := none) (cap := 0) (n := 0) rfl (by simp) (by simp only; omega) (by omega) (fun p hp => by cases hp) (fun w' h => PmR.nil _ _ _) hmb (L := rcptR XB CB RB #[.bool b0, .bool b1, .bool b2, .bool b3, .bool b4, .bool b5, .int .i64 mst] fr L))
  unfold cmV at MY
  clear hmb
  have x0 := O5.cell 0
  have x1 := O5.cell 1
  have x2 := O5.cell 2
  go_wp2_with fail
  refine (MY.out _ O5).mono ?_
  clear MY O5 x0 x1 x2
  rintro e w3 ⟨rfl, O5⟩
  cases mb
  · have RN := Lib.hid (SNO.out (by trivial))
    clear SNO SYES
    have OY := O5.pick 3
    have s0 := OY.cell 0
    have f0 := OY.free
    have P1 := OY.set 0 (.int .u8 0)
    have s1 := P1.cell 1
    have f1 := P1.free
    have P2 := P1.set 1 (.string ⟨#[]⟩)
    have s2 := P2.cell 2
    have f2 := P2.free
    have P3 := P2.set 2 (.slice none 0 0)
    have t0 := P3.cell 0
    have t1 := P3.cell 1
    have t2 := P3.cell 2
    go_wp2
    refine bodyPost_ret (v := .tuple #[.agg #[.int .u8 0, .string ⟨#[]⟩, .slice none 0 0], .int .i64 4]) (by simp [results, Tryd.results12, go_sem, t0, t1, t2]; try rfl) rfl ?_
    exact rmade_none RN.out P3.drop.drop.drop.drop
  have d3 : w3.cell? ⟨CB, 3, none⟩ = some (.bool b3) := (O5.pick 2).cell 3
  cases b3
  · have RY := Lib.hid (SYES.out (by trivial))
    clear SNO SYES
    have x0 := O5.cell 0
    have x1 := O5.cell 1
    have x2 := O5.cell 2
    have OY := O5.pick 3
    have s0 := OY.cell 0
    have f0 := OY.free
    have P1 := OY.set 0 (.int .u8 4)
    have s1 := P1.cell 1
    have f1 := P1.free
    have P2 := P1.set 1 (.string ⟨fr.toArray⟩)
    have s2 := P2.cell 2
    have f2 := P2.free
    have P3 := P2.set 2 (.slice none 0 0)
    have t0 := P3.cell 0
    have t1 := P3.cell 1
    have t2 := P3.cell 2
    go_wp2
    refine bodyPost_ret (v := .tuple #[.agg #[.int .u8 4, .string ⟨fr.toArray⟩, .slice none 0 0], .int .i64 0]) (by simp [results, Tryd.results12, go_sem, t0, t1, t2]; try rfl) rfl ?_
    exact rmade_some RY.out rfl (P3.selK 4 [2])
  cases nv
  · have RY := Lib.hid (SYES.out (by trivial))
    clear SNO SYES
    have x0 := O5.cell 0
    have x1 := O5.cell 1
    have x2 := O5.cell 2
    have OY := O5.pick 3
    have s0 := OY.cell 0
    have f0 := OY.free
    have P1 := OY.set 0 (.int .u8 4)
    have s1 := P1.cell 1
    have f1 := P1.free
    have P2 := P1.set 1 (.string ⟨fr.toArray⟩)
    have s2 := P2.cell 2
    have f2 := P2.free
    have P3 := P2.set 2 (.slice none 0 0)
    have t0 := P3.cell 0
    have t1 := P3.cell 1
    have t2 := P3.cell 2
    go_wp2
    refine bodyPost_ret (v := .tuple #[.agg #[.int .u8 4, .string ⟨fr.toArray⟩, .slice none 0 0], .int .i64 0]) (by simp [results, Tryd.results12, go_sem, t0, t1, t2]; try rfl) rfl ?_
    exact rmade_some RY.out rfl (P3.selK 4 [2])
  have OA := (O5.onePm (([78, 79, 84, 73, 70, 89], [78, 69, 86, 69, 82]) : Pm) 72).pick 1
  have x2' := OA.cell 2
  have xf' := OA.free
  have OB := OA.set 2 (.slice (some ⟨w3.heap.size, 0, none⟩) 1 1)
  have RY := Lib.hid (SYES.out (by trivial))
  clear SNO SYES
  have x0 := OB.cell 0
  have x1 := OB.cell 1
  have x2 := OB.cell 2
  have OY := OB.pick 4
  have s0 := OY.cell 0
  have f0 := OY.free
  have P1 := OY.set 0 (.int .u8 4)
  have s1 := P1.cell 1
  have f1 := P1.free
  have P2 := P1.set 1 (.string ⟨fr.toArray⟩)
  have s2 := P2.cell 2
  have f2 := P2.free
  have P3 := P2.set 2 (.slice (some ⟨w3.heap.size, 0, none⟩) 1 1)
  have t0 := P3.cell 0
  have t1 := P3.cell 1
  have t2 := P3.cell 2
  go_wp2
  refine bodyPost_ret (v := .tuple #[.agg #[.int .u8 4, .string ⟨fr.toArray⟩, .slice (some ⟨w3.heap.size, 0, none⟩) 1 1], .int .i64 0]) (by simp [results, Tryd.results12, go_sem, t0, t1, t2]; try rfl) rfl ?_
  exact rmade_some RY.out rfl (P3.selK 5 [2])
end Go.Proofs.YtehkdbgoeakgbaaDoor
