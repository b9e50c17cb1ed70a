/- mailroomlaw07.awake; printed by wip/cmo.py. -/
import Derived.Test.YtehkdbgoeakgbaaGreatDoorCmN
namespace Go.Proofs.YtehkdbgoeakgbaaGreatDoor
set_option linter.all false
open Go.RowKit Go.Shelf

theorem mail_some {w0 w : World} {L : List Piece} (K : Kinds w0) (T : Tab w0) (O : Own w0 w L) (fr : List UInt8) (hf : fr.length ≤ 1000000) (b0 b1 b2 b3 b4 b5 : Bool) (mst : Int) (n : Int) (hn : (Lit.int .i64 n).wf = true) (rq : Bool) (env : List UInt8) (he : env.length ≤ 1000000)
    {x : List UInt8} {ps : List Pm} (h : mailCm fr n b5 b2 b3 rq env = some ⟨3, x, ps⟩) {N : Nat} (hN : N = ps.length) :
    Calls Tryz.prog 19 #[.string ⟨fr.toArray⟩, .agg #[.bool b0, .bool b1, .bool b2, .bool b3, .bool b4, .bool b5, .int .i64 mst], .int .i64 n, .bool rq, .string ⟨env.toArray⟩] w
      fun e w' => ∃ a cap, e = .returned (.tuple #[.agg #[.int .u8 3, .string ⟨x.toArray⟩, .slice a N cap], .int .i64 0]) ∧ Own w0 w' (rowv 48 2 (.slice a N cap) N (flatP ps) :: L) := by
  have M := mail7_own K T O fr hf b0 b1 b2 b3 b4 b5 mst n hn rq env he
  rw [h] at M
  subst hN
  exact M
theorem mail_none {w0 w : World} {L : List Piece} (K : Kinds w0) (T : Tab w0) (O : Own w0 w L) (fr : List UInt8) (hf : fr.length ≤ 1000000) (b0 b1 b2 b3 b4 b5 : Bool) (mst : Int) (n : Int) (hn : (Lit.int .i64 n).wf = true) (rq : Bool) (env : List UInt8) (he : env.length ≤ 1000000)
    (h : mailCm fr n b5 b2 b3 rq env = none) :
    Calls Tryz.prog 19 #[.string ⟨fr.toArray⟩, .agg #[.bool b0, .bool b1, .bool b2, .bool b3, .bool b4, .bool b5, .int .i64 mst], .int .i64 n, .bool rq, .string ⟨env.toArray⟩] w
      fun e w' => e = .returned (.tuple #[.agg #[.int .u8 0, .string ⟨#[]⟩, .slice none 0 0], .int .i64 4]) ∧ Own w0 w' L := by
  have M := mail7_own K T O fr hf b0 b1 b2 b3 b4 b5 mst n hn rq env he
  rw [h] at M
  exact M
theorem rcpt_some {w0 w : World} {L : List Piece} (K : Kinds w0) (O : Own w0 w L) (fr : List UInt8) (hf : fr.length ≤ 1000000) (b0 b1 b2 b3 b4 b5 : Bool) (mst : Int) (nv : Bool)
    {x : List UInt8} {ps : List Pm} (h : rcptCm fr b3 nv = some ⟨4, x, ps⟩) {N : Nat} (hN : N = ps.length) :
    Calls Tryz.prog 21 #[.string ⟨fr.toArray⟩, .agg #[.bool b0, .bool b1, .bool b2, .bool b3, .bool b4, .bool b5, .int .i64 mst], .bool nv] w
      fun e w' => ∃ a cap, e = .returned (.tuple #[.agg #[.int .u8 4, .string ⟨x.toArray⟩, .slice a N cap], .int .i64 0]) ∧ Own w0 w' (rowv 48 2 (.slice a N cap) N (flatP ps) :: L) := by
  have M := rcpt7_own K O fr hf b0 b1 b2 b3 b4 b5 mst nv
  rw [h] at M
  subst hN
  exact M
theorem rcpt_none {w0 w : World} {L : List Piece} (K : Kinds w0) (O : Own w0 w L) (fr : List UInt8) (hf : fr.length ≤ 1000000) (b0 b1 b2 b3 b4 b5 : Bool) (mst : Int) (nv : Bool) (h : rcptCm fr b3 nv = none) :
    Calls Tryz.prog 21 #[.string ⟨fr.toArray⟩, .agg #[.bool b0, .bool b1, .bool b2, .bool b3, .bool b4, .bool b5, .int .i64 mst], .bool nv] w
      fun e w' => e = .returned (.tuple #[.agg #[.int .u8 0, .string ⟨#[]⟩, .slice none 0 0], .int .i64 4]) ∧ Own w0 w' L := by
  have M := rcpt7_own K O fr hf b0 b1 b2 b3 b4 b5 mst nv
  rw [h] at M
  exact M
theorem parse_some {w0 w : World} {L : List Piece} (K : Kinds w0) (O : Own w0 w L) (s : List UInt8) (hs : s.length ≤ 510) {v : Nat} {x : List UInt8} {ps : List Pm} (h : parseCm s = some ⟨v, x, ps⟩) {N : Nat} (hN : N = ps.length) :
    Calls Tryz.prog 16 #[.string ⟨s.toArray⟩] w
      fun e w' => ∃ a cap, e = .returned (.tuple #[.agg #[.int .u8 v, .string ⟨x.toArray⟩, .slice a N cap], .int .i64 0]) ∧ Own w0 w' (rowv 48 2 (.slice a N cap) N (flatP ps) :: L) := by
  have M := parse7_own K O s (by omega)
  refine M.mono ?_
  rintro e w' q
  unfold ParsePost at q
  rw [h] at q
  simp only [if_pos hs] at q
  subst hN
  exact q
/-- what was made is shown -/
theorem shown_is {w0 w : World} {L : List Piece} (K : Kinds w0) (v : Nat) (x : List UInt8) (ps : List Pm) {e1 : TypeId} {a : Option Addr} {N cap : Nat} (O : Own w0 w (rowv e1 2 (.slice a N cap) N (flatP ps) :: L)) (h256 : v < 256) (hx : x.length ≤ 10000000) (hv : (ps.flatMap ptL).length ≤ 10000000) (hN : N ≤ 1000000000)
    {r : List UInt8} (hr : shownL ⟨v, x, ps⟩ 0 = r) :
    Calls Tryz.prog 18 #[.agg #[.int .u8 v, .string ⟨x.toArray⟩, .slice a N cap], .int .i64 0] w fun e w' => e = .returned (.string ⟨r.toArray⟩) ∧ Own w0 w' L := by
  refine (shown7_own K O ⟨v, x, ps⟩ (a := a) (cap := cap) (n := N) O.pmR.len h256 hx hN hv (fun w' h => h.pmR) 0 (.inl rfl) hr).mono ?_
  rintro e w' ⟨h1, h2⟩
  exact ⟨h1, h2.drop⟩
theorem shown_no {w0 w : World} {L : List Piece} (K : Kinds w0) (O : Own w0 w L) (e0 : Int) (he : e0 = 0 ∨ e0 = 4) :
    Calls Tryz.prog 18 #[.agg #[.int .u8 0, .string ⟨#[]⟩, .slice none 0 0], .int .i64 e0] w fun e w' => e = .returned (.string ⟨#[]⟩) ∧ Own w0 w' L := by
  refine (shown7_own K O ⟨0, [], []⟩ (a := none) (cap := 0) (n := 0) rfl (by decide) (by decide) (by decide) (by decide) (fun w' h => PmR.nil _ _ _) e0 he (r := []) ?_).mono ?_
  · rcases he with rfl | rfl <;> rfl
  · rintro e w' ⟨h1, h2⟩
    exact ⟨h1, h2⟩

set_option maxRecDepth 100000 in
set_option maxHeartbeats 8000000 in
theorem awake7_own {w0 w : World} {L : List Piece} (K : Kinds w0) (T : Tab w0) (O : Own w0 w L) :
    Calls Tryz.prog 5 #[] w fun e w' => e = .returned (.bool true) ∧ Own w0 w' L := by
  go_enter Tryz.func5, Tryz.ntmps5
  go_wp2_with fail
  refine (parse_some K O [101, 104, 108, 111, 32, 109, 120, 46, 101, 120, 97, 109, 112, 108, 101] (by decide) (v := 1) (x := [109, 120, 46, 101, 120, 97, 109, 112, 108, 101]) (ps := []) (N := 0) (by kernel_rfl) rfl).mono ?_
  clear O
  rintro e w1 ⟨a1, c1, rfl, O⟩
  obtain ⟨CB, hCB⟩ : ∃ q, q = w1.heap.size := ⟨_, rfl⟩
  replace O := O.drop.newBox #[.int .u8 1, .string ⟨[109, 120, 46, 101, 120, 97, 109, 112, 108, 101].toArray⟩, .slice a1 0 c1] 24
  go_wp2_with fail
  rw [← hCB] at O ⊢
  clear hCB
  refine (all7_own O).mono ?_
  clear O
  rintro e w1 ⟨rfl, O⟩
  go_wp2_with fail
  refine (mail_some K T O [97, 64, 98, 46, 99] (by decide) true true true true true true 9999 100 (by decide) true [120] (by decide) (x := [97, 64, 98, 46, 99]) (ps := [([83, 73, 90, 69], [49, 48, 48]), ([82, 69, 81, 85, 73, 82, 69, 84, 76, 83], []), ([69, 78, 86, 73, 68], [120])]) (N := 3) (by kernel_rfl) rfl).mono ?_
  clear O
  rintro e w1 ⟨a1, c1, rfl, O⟩
  go_wp2_with fail
  refine (shown_is K 3 [97, 64, 98, 46, 99] [([83, 73, 90, 69], [49, 48, 48]), ([82, 69, 81, 85, 73, 82, 69, 84, 76, 83], []), ([69, 78, 86, 73, 68], [120])] O (by decide) (by decide) (by decide) (by decide) (r := [77, 65, 73, 76, 32, 70, 82, 79, 77, 58, 60, 97, 64, 98, 46, 99, 62, 32, 83, 73, 90, 69, 61, 49, 48, 48, 32, 82, 69, 81, 85, 73, 82, 69, 84, 76, 83, 32, 69, 78, 86, 73, 68, 61, 120]) (by kernel_rfl)).mono ?_
  clear O
  rintro e w1 ⟨rfl, O⟩
  go_wp2_with fail
  refine (mail_some K T O [97, 64, 98, 46, 99] (by decide) false false false false false false 0 100 (by decide) true [120] (by decide) (x := [97, 64, 98, 46, 99]) (ps := []) (N := 0) (by kernel_rfl) rfl).mono ?_
  clear O
  rintro e w1 ⟨a1, c1, rfl, O⟩
  go_wp2_with fail
  refine (shown_is K 3 [97, 64, 98, 46, 99] [] O (by decide) (by decide) (by decide) (by decide) (r := [77, 65, 73, 76, 32, 70, 82, 79, 77, 58, 60, 97, 64, 98, 46, 99, 62]) (by kernel_rfl)).mono ?_
  clear O
  rintro e w1 ⟨rfl, O⟩
  go_wp2_with fail
  refine (mail_some K T O [] (by decide) false false false false false false 0 0 (by decide) false [] (by decide) (x := []) (ps := []) (N := 0) (by kernel_rfl) rfl).mono ?_
  clear O
  rintro e w1 ⟨a1, c1, rfl, O⟩
  go_wp2_with fail
  refine (shown_is K 3 [] [] O (by decide) (by decide) (by decide) (by decide) (r := [77, 65, 73, 76, 32, 70, 82, 79, 77, 58, 60, 62]) (by kernel_rfl)).mono ?_
  clear O
  rintro e w1 ⟨rfl, O⟩
  go_wp2_with fail
  refine (rcpt_some K O [100, 64, 101, 46, 102] (by decide) false false false true false false 0 true (x := [100, 64, 101, 46, 102]) (ps := [([78, 79, 84, 73, 70, 89], [78, 69, 86, 69, 82])]) (N := 1) (by kernel_rfl) rfl).mono ?_
  clear O
  rintro e w1 ⟨a2, c2, rfl, O⟩
  go_wp2_with fail
  refine (shown_is K 4 [100, 64, 101, 46, 102] [([78, 79, 84, 73, 70, 89], [78, 69, 86, 69, 82])] O (by decide) (by decide) (by decide) (by decide) (r := [82, 67, 80, 84, 32, 84, 79, 58, 60, 100, 64, 101, 46, 102, 62, 32, 78, 79, 84, 73, 70, 89, 61, 78, 69, 86, 69, 82]) (by kernel_rfl)).mono ?_
  clear O
  rintro e w1 ⟨rfl, O⟩
  have x0 := O.cell 0
  have x1 := O.cell 1
  have x2 := O.cell 2
  go_wp2_with fail
  refine (wrong7_own K O [77, 65, 73, 76, 32, 70, 82, 79, 77, 58, 32, 60, 97, 64, 98, 46, 99, 62] (by decide) (r := 4) (by kernel_rfl)).mono ?_
  clear O
  rintro e w1 ⟨rfl, O⟩
  go_wp2_with fail
  refine (wrong7_own K O [68, 65, 84, 65, 32] (by decide) (r := 4) (by kernel_rfl)).mono ?_
  clear O
  rintro e w1 ⟨rfl, O⟩
  go_wp2_with fail
  refine (wrong7_own K O [82, 67, 80, 84, 32, 84, 79, 58, 60, 62] (by decide) (r := 4) (by kernel_rfl)).mono ?_
  clear O
  rintro e w1 ⟨rfl, O⟩
  go_wp2
  go_ret
  exact ⟨rfl, O.drop⟩
end Go.Proofs.YtehkdbgoeakgbaaGreatDoor
