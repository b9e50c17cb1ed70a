/- mailroomlaw07: told; as CmY, for the seat of CmdTells. -/
import Derived.Test.YtehkdbgoeakgbaaGreatDoorCmU
namespace Go.Proofs.YtehkdbgoeakgbaaGreatDoor
set_option linter.all false
open Go.RowKit Go.Shelf

/-- what told holds -/
abbrev toldR (XB CB RB : Nat) (c : Cm) (a : Option Addr) (N cap : Nat) (k : Nat) (a1 : Option Addr) (c1 : Nat) (fl : List Value) (L : List Piece) : List Piece :=
  box XB #[.int .u8 c.verb, .string ⟨c.arg.toArray⟩, .slice a1 k c1] 30 :: rowv 57 2 (.slice a1 k c1) k fl :: box CB #[.int .u8 c.verb, .string ⟨c.arg.toArray⟩, .slice a N cap] 24 :: box RB #[.int .u8 0, .string ⟨#[]⟩, .slice none 0 0] 30 :: L
/-- a command, told -/
def ToldPost (w0 : World) (L : List Piece) (c : Cm) (e : Ending) (w' : World) : Prop :=
  ∃ a cap, e = .returned (cmV c a c.ps.length cap) ∧ Own w0 w' (rowv 57 2 (.slice a c.ps.length cap) c.ps.length (flatP c.ps) :: L)
set_option maxRecDepth 100000 in
set_option maxHeartbeats 4000000 in
theorem toldc7_own {w0 w : World} {L : List Piece} (O : Own w0 w L) (c : Cm) {a : Option Addr} {N cap : Nat} (hn : N = c.ps.length) (hl : N ≤ 1000000) (RD : ∀ w', Own w0 w' L → PmR w' (.slice a N cap) c.ps) :
    Calls Tryz.prog 7 #[cmV c a N cap] w (ToldPost w0 L c) := by
  unfold cmV
  have RDH := Lib.hid RD
  have HN := Lib.hid hn
  clear RD hn
  have O1 := O.newBox #[.int .u8 c.verb, .string ⟨c.arg.toArray⟩, .slice a N cap] 24
  have O2 := O1.newBox #[.int .u8 0, .string ⟨#[]⟩, .slice none 0 0] 30
  have O3 := O2.newBox #[.int .u8 c.verb, .string ⟨c.arg.toArray⟩, .slice none 0 0] 30
  obtain ⟨CB, hCB⟩ : ∃ b, b = w.heap.size := ⟨_, rfl⟩
  obtain ⟨RB, hRB⟩ : ∃ b, b = w.heap.size + 1 := ⟨_, rfl⟩
  obtain ⟨XB, hXB⟩ : ∃ b, b = w.heap.size + 2 := ⟨_, rfl⟩
  rw [show (((w.alloc (.cells #[.int .u8 c.verb, .string ⟨c.arg.toArray⟩, .slice a N cap] 24)).alloc (.cells #[.int .u8 0, .string ⟨#[]⟩, .slice none 0 0] 30))).heap.size = XB by rw [hXB]; simp, show (w.alloc (.cells #[.int .u8 c.verb, .string ⟨c.arg.toArray⟩, .slice a N cap] 24)).heap.size = RB by rw [hRB]; simp, ← hCB] at O3
  have O4 := (O3.nilPm 57).selK 4 [1, 0, 3, 2]
  have O5 : Own w0 _ (toldR XB CB RB c a N cap 0 none 0 (flatP (c.ps.take 0)) L) := O4
  clear O O1 O2 O3 O4
  have WH : Hid (w.heap.size = CB ∧ w.heap.size + 1 = RB ∧ w.heap.size + 1 + 1 = XB) := by unfold Hid; omega
  clear hCB hRB hXB
  go_enter Tryz.func7, Tryz.ntmps7
  go_upto_region 2 with fail
  rw [WH.out.2.2, WH.out.2.1, WH.out.1]
  generalize (((w.alloc (.cells #[.int .u8 c.verb, .string ⟨c.arg.toArray⟩, .slice a N cap] 24)).alloc (.cells #[.int .u8 0, .string ⟨#[]⟩, .slice none 0 0] 30)).alloc (.cells #[.int .u8 c.verb, .string ⟨c.arg.toArray⟩, .slice none 0 0] 30)) = W at O5 ⊢
  clear WH
  go_wp2_with fail
  go_loopw [4] (fun iv wr => ∃ (k : Nat) (a1 : Option Addr) (c1 : Nat), iv = .int .i64 k ∧ k ≤ N ∧ Own w0 wr (toldR XB CB RB c a N cap k a1 c1 (flatP (c.ps.take k)) L)) (fun iv _ => N - (intOf iv).toNat)
  case atStart => exact ⟨0, none, 0, rfl, by omega, O5⟩
  case round =>
    clear O5
    obtain ⟨k, a1, c1, rfl, hk, O⟩ := hrel
    have n2 : wr.cell? ⟨CB, 2, none⟩ = some (.slice a N cap) := (O.pick 2).cell 2
    by_cases hlt : k < N
    · have hb1 : (k : Int) < (N : Int) := by omega
      have hlt2 : k < c.ps.length := by rw [← HN.out]; exact hlt
      obtain ⟨g, off, rfl, d0, d1⟩ := (RDH.out _ O.drop.drop.drop.drop).at k hlt2
      have TK : Hid (flatP (c.ps.take (k + 1)) = flatP (c.ps.take k) ++ flatP [c.ps[k]]) := by
        unfold Hid; rw [List.take_succ_eq_append_getElem hlt2, flatP_snoc]
      generalize c.ps[k] = f at d0 d1 TK
      clear hlt2
      obtain ⟨a2, c2, w2, hap, O2⟩ := run_append_pm pty_ref (O.drew.pick 1) f (by omega) 28
      rw [← TK.out] at O2
      have x0 : wr.cell? ⟨XB, 2, none⟩ = some (.slice a1 k c1) := O.cell 2
      have x1 : (wr.alloc (.cells #[.string ⟨f.1.toArray⟩, .string ⟨f.2.toArray⟩] 57)).cell? ⟨XB, 2, none⟩ = some (.slice a1 k c1) := (O.alloc _).cell 2
      have x2 : w2.cell? ⟨XB, 2, none⟩ = some (.slice a1 k c1) := (O2.pick 1).cell 2
      have xf : w2.frozen? ⟨XB, 2, none⟩ = false := (O2.pick 1).free 2
      have O4 := ((O2.pick 1).set 2 (.slice a2 (k + 1) c2))
      clear O O2 TK
      go_wp2_with fail
      go_region_law (refine step_appendO rfl rfl rfl rfl (show (Builtin.append_ _ _ _).run Tryz.prog ((wr.alloc (.cells #[.string ⟨f.1.toArray⟩, .string ⟨f.2.toArray⟩] 57)).drew) = _ from hap) ?_)
      all_goals
        go_wp2
        go_roundw
        case rel => exact ⟨k + 1, a2, c2, by go_num, by omega, O4⟩
        case measure => simp [intOf]; omega
    · obtain rfl : k = N := by omega
      have TK : Hid (flatP (c.ps.take k) = flatP c.ps) := by unfold Hid; rw [HN.out, List.take_length]
      rw [TK.out] at O
      clear TK
      have x0 := O.cell 0
      have x1 := O.cell 1
      have x2 := O.cell 2
      have OY := O.pick 3
      clear O
      have s0 := OY.cell 0
      have f0 := OY.free
      have P1 := OY.set 0 (.int .u8 c.verb)
      have s1 := P1.cell 1
      have f1 := P1.free
      have P2 := P1.set 1 (.string ⟨c.arg.toArray⟩)
      have s2 := P2.cell 2
      have f2 := P2.free
      have P3 := P2.set 2 (.slice a1 k c1)
      have t0 := P3.cell 0
      have t1 := P3.cell 1
      have t2 := P3.cell 2
      go_wp2
      refine bodyPost_ret (v := .agg #[.int .u8 c.verb, .string ⟨c.arg.toArray⟩, .slice a1 k c1]) (by simp [results, Tryz.results7, go_sem, t0, t1, t2]; try rfl) rfl ?_
      have OO := P3.selK 4 [2]
      rw [HN.out] at OO ⊢
      exact ⟨a1, c1, rfl, OO⟩
end Go.Proofs.YtehkdbgoeakgbaaGreatDoor
