/- mailroomlaw07: shown, wrong, all, awake. -/
import Derived.Test.YtehkdbgoeakgbaaGreatDoorCmJ
import Derived.Test.YtehkdbgoeakgbaaGreatDoorCmL
namespace Go.Proofs.YtehkdbgoeakgbaaGreatDoor
set_option linter.all false
open Go.RowKit Go.Shelf

def shownL (c : Cm) (e : Int) : List UInt8 := if e = 0 then (showCm c).1 else []
theorem show_err (c : Cm) : ((showCm c).2 = 0 ∨ (showCm c).2 = 4 ∨ (showCm c).2 = 40) ∧ ((showCm c).2 ≠ 0 → (showCm c).1 = []) := by
  unfold showCm
  split
  · split
    · simp
    · simp
  · simp
set_option maxHeartbeats 1000000 in
theorem shown7_own {w0 w : World} {L : List Piece} (K : Kinds w0) (O : Own w0 w L) (c : Cm) {a : Option Addr} {n cap : Nat} (hn : n = c.ps.length) (h256 : c.verb < 256) (ha : c.arg.length ≤ 10000000) (hl : n ≤ 1000000000) (hv : (c.ps.flatMap ptL).length ≤ 10000000)
    (RD : ∀ w', Own w0 w' L → PmR w' (.slice a n cap) c.ps) (e0 : Int) (he : e0 = 0 ∨ e0 = 4) {r : List UInt8} (hr : shownL c e0 = r) :
    Calls Tryz.prog 18 #[.agg #[.int .u8 c.verb, .string ⟨c.arg.toArray⟩, .slice a n cap], .int .i64 e0] w fun e w' => e = .returned (.string ⟨r.toArray⟩) ∧ Own w0 w' L := by
  have O1 := O.newBox #[.int .u8 c.verb, .string ⟨c.arg.toArray⟩, .slice a n cap] 24
  have c0 := O1.cell 0
  have c1 := O1.cell 1
  have c2 := O1.cell 2
  have SH := show7_own K O1 c (a := a) (cap := cap) hn h256 ha hl hv (fun w' h => RD w' h.drop)
  have HR : Hid (r = if e0 = 0 then (showCm c).1 else []) := hr.symm
  obtain ⟨s1, s2⟩ := show_err c
  unfold showV7 cmV at SH
  clear hn h256 hl hv ha RD hr K O
  generalize (showCm c).1 = l at SH HR s2
  generalize (showCm c).2 = e2 at SH s1 s2
  obtain ⟨v, x, ps⟩ := c
  rcases he with rfl | rfl
  · obtain rfl : r = l := HR.out
    clear HR
    rcases s1 with rfl | rfl | rfl
    · clear s2
      go_enter Tryz.func18, Tryz.ntmps18
      go_wp2_with fail
      refine SH.mono ?_
      clear SH O1 c0 c1 c2
      rintro e w1 ⟨rfl, O⟩
      go_wp2
      go_ret
      exact ⟨rfl, O.drop⟩
    · obtain rfl := s2 (by decide)
      clear s2
      go_enter Tryz.func18, Tryz.ntmps18
      go_wp2_with fail
      refine SH.mono ?_
      clear SH O1 c0 c1 c2
      rintro e w1 ⟨rfl, O⟩
      go_wp2
      go_ret
      exact ⟨rfl, O.drop⟩
    · obtain rfl := s2 (by decide)
      clear s2
      go_enter Tryz.func18, Tryz.ntmps18
      go_wp2_with fail
      refine SH.mono ?_
      clear SH O1 c0 c1 c2
      rintro e w1 ⟨rfl, O⟩
      go_wp2
      go_ret
      exact ⟨rfl, O.drop⟩
  · obtain rfl : r = [] := HR.out
    clear HR s1 s2
    go_enter Tryz.func18, Tryz.ntmps18
    go_wp2_with fail
    refine SH.mono ?_
    clear SH O1 c0 c1 c2
    rintro e w1 ⟨rfl, O⟩
    go_wp2
    go_ret
    exact ⟨rfl, O.drop⟩
/-- by what a line is refused -/
def wrongN (s : List UInt8) : Int := if s.length ≤ 510 then (match parseCm s with | some _ => 0 | none => 4) else 40
set_option maxHeartbeats 1000000 in
theorem wrong7_own {w0 w : World} {L : List Piece} (K : Kinds w0) (O : Own w0 w L) (s : List UInt8) (hs : s.length ≤ 1000000) {r : Int} (hr : wrongN s = r) :
    Calls Tryz.prog 22 #[.string ⟨s.toArray⟩] w fun e w' => e = .returned (.int .i64 r) ∧ Own w0 w' L := by
  have PP := parse7_own K O s hs
  unfold wrongN at hr
  cases hp : parseCm s with
  | none =>
    rw [hp] at hr
    have PN : Calls Tryz.prog 16 #[.string ⟨s.toArray⟩] w fun e w' => e = .returned (.tuple #[.agg #[.int .u8 0, .string ⟨#[]⟩, .slice none 0 0], .int .i64 r]) ∧ Own w0 w' L := by
      refine PP.mono ?_
      rintro e w' h
      unfold ParsePost at h
      rw [hp] at h
      obtain ⟨h1, h2⟩ := h
      refine ⟨?_, h2⟩
      rw [h1, ← hr]; rfl
    clear PP hr hp
    go_enter Tryz.func22, Tryz.ntmps22
    go_wp2_with fail
    refine PN.mono ?_
    clear PN O
    rintro e w1 ⟨rfl, O⟩
    have O1 := O.alloc (.cells #[.int .u8 0, .string ⟨#[]⟩, .slice none 0 0] 24)
    go_wp2
    go_ret
    exact ⟨rfl, O1⟩
  | some c =>
    rw [hp] at hr
    by_cases h5 : s.length ≤ 510
    · rw [if_pos h5] at hr
      simp only at hr
      subst hr
      have hv := may_verb (parse_back hp).1
      have PN : Calls Tryz.prog 16 #[.string ⟨s.toArray⟩] w fun e w' => ∃ a cap, e = .returned (.tuple #[.agg #[.int .u8 c.verb, .string ⟨c.arg.toArray⟩, .slice a c.ps.length cap], .int .i64 0]) ∧ Own w0 w' L := by
        refine PP.mono ?_
        rintro e w' h
        unfold ParsePost at h
        rw [hp] at h
        simp only [if_pos h5] at h
        obtain ⟨a, cap, h1, h2⟩ := h
        exact ⟨a, cap, h1, h2.drop⟩
      have hne : ((c.verb : Int) != 0) = true := by simp; omega
      clear PP hp
      generalize c.ps.length = n at PN
      generalize c.arg = x at PN
      generalize c.verb = v at PN hv hne
      go_enter Tryz.func22, Tryz.ntmps22
      go_wp2_with fail
      refine PN.mono ?_
      clear PN O
      rintro e w1 ⟨a, cap, rfl, O⟩
      have O1 := O.alloc (.cells #[.int .u8 v, .string ⟨x.toArray⟩, .slice a n cap] 24)
      go_wp2
      go_ret
      exact ⟨rfl, O1⟩
    · rw [if_neg h5] at hr
      subst hr
      have PN : Calls Tryz.prog 16 #[.string ⟨s.toArray⟩] w fun e w' => e = .returned (.tuple #[.agg #[.int .u8 0, .string ⟨#[]⟩, .slice none 0 0], .int .i64 40]) ∧ Own w0 w' L := by
        refine PP.mono ?_
        rintro e w' h
        unfold ParsePost at h
        rw [hp] at h
        simp only [if_neg h5] at h
        exact h
      clear PP hp
      go_enter Tryz.func22, Tryz.ntmps22
      go_wp2_with fail
      refine PN.mono ?_
      clear PN O
      rintro e w1 ⟨rfl, O⟩
      have O1 := O.alloc (.cells #[.int .u8 0, .string ⟨#[]⟩, .slice none 0 0] 24)
      go_wp2
      go_ret
      exact ⟨rfl, O1⟩
theorem all7_own {w0 w : World} {L : List Piece} (O : Own w0 w L) :
    Calls Tryz.prog 20 #[] w fun e w' => e = .returned (.agg #[.bool true, .bool true, .bool true, .bool true, .bool true, .bool true, .int .i64 9999]) ∧ Own w0 w' L := by
  go_enter Tryz.func20, Tryz.ntmps20
  go_wp2
  refine bodyPost_ret (by simp [results, Tryz.results20, go_sem]; try rfl) rfl ?_
  exact ⟨rfl, O.alloc _⟩
end Go.Proofs.YtehkdbgoeakgbaaGreatDoor
