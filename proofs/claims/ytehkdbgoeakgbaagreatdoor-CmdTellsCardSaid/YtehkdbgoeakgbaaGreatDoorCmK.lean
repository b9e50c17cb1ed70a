/- cmd: Mail, Rcpt. -/
import Derived.Test.YtehkdbgoeakgbaaGreatDoorCmG
import Derived.Test.YtehkdbgoeakgbaaGreatDoorCmBa
import Derived.Lib.AppendIntMem
import Derived.Lib.ItoaLen
import Derived.IntWalk
namespace Go.Proofs.YtehkdbgoeakgbaaGreatDoor
set_option linter.all false
open Go.RowKit Go.Shelf

/-- the table that the library's numbers want -/
def Tab (w : World) : Prop := Lib.TabIs Tryz.prog w "internal/strconv.uint64pow10" .u64 Lib.pow10Tab
theorem Tab.chg {w w' : World} (h : Tab w) (hc : Chg [] w w') : Tab w' := by
  unfold Tab Lib.TabIs World.var? at h ⊢
  cases hg : Tryz.prog.globalNamed "internal/strconv.uint64pow10" with
  | none => rw [hg] at h; cases h
  | some g =>
    rw [hg] at h
    simp only [Option.bind_some] at h ⊢
    cases ho : w.heap[g]? with
    | none => rw [ho] at h; cases h
    | some o => rw [hc.obj ho (by simp)]; rw [ho] at h; exact h
theorem itoa7_own {w0 w : World} {L : List Piece} (T : Tab w0) (O : Own w0 w L) (n : Int) (hn : (Lit.int .i64 n).wf = true) :
    Calls Tryz.prog 42 #[.int .i64 n] w fun e w' => e = .returned (.string ⟨(Lib.itoa n).toArray⟩) ∧ Own w0 w' L := by
  have hw : -9223372036854775808 ≤ n ∧ n ≤ 9223372036854775807 := by
    have := hn
    simp [Lit.wf, IntKind.min, IntKind.max, IntKind.signed, IntKind.bits] at this
    omega
  have IT := Tryz.strconv_Itoa n hw.1 hw.2 w (T.chg O.chg)
  generalize Lib.itoa n = s at IT ⊢
  clear hw hn
  go_enter Tryz.func42, Tryz.ntmps42
  go_wp2_with fail
  refine IT.mono ?_
  clear IT
  rintro e w1 ⟨rfl, k, os, rfl⟩
  have hb := Lib.below_grow w.heap.size w (Nat.le_refl _) k os
  replace O := O.pure (w' := Go.Sort.grow (w.drewN k) os) ⟨hb.os, hb.tape, hb.output, hb.size, fun i hi _ => hb.block i hi⟩
  go_wp2
  go_ret
  exact ⟨rfl, O⟩
/-- a letter, a digit, a '-' -/
def envC (c : UInt8) : Bool := letterB c || (c == 45)
theorem envC_yes {c : UInt8} (h : (97 ≤ (c.toNat : Int) ∧ (c.toNat : Int) ≤ 122) ∨ (65 ≤ (c.toNat : Int) ∧ (c.toNat : Int) ≤ 90) ∨ (48 ≤ (c.toNat : Int) ∧ (c.toNat : Int) ≤ 57)) : envC c = true := by
  have : letterB c = true := by simp [letterB]; omega
  unfold envC; rw [this]; rfl
theorem envC_no {c : UInt8} (h : ¬ ((97 ≤ (c.toNat : Int) ∧ (c.toNat : Int) ≤ 122) ∨ (65 ≤ (c.toNat : Int) ∧ (c.toNat : Int) ≤ 90) ∨ (48 ≤ (c.toNat : Int) ∧ (c.toNat : Int) ≤ 57))) : envC c = ((c.toNat : Int) == 45) := by
  have : letterB c = false := by simp [letterB]; omega
  unfold envC; rw [this, c_is c 45 45 rfl]; rfl
theorem env_any (c : UInt8) (w : World) : Calls Tryz.prog 44 #[.int .u8 (c.toNat : Int)] w fun e w' => e = .returned (.bool (!envC c)) ∧ w = w' := by
  by_cases a1 : 97 ≤ (c.toNat : Int)
  · by_cases a2 : (c.toNat : Int) ≤ 122
    · rw [envC_yes (.inl ⟨a1, a2⟩)]
      go_enter Tryz.func44, Tryz.ntmps44
      go_wp2
      go_ret
      exact ⟨rfl, rfl⟩
    · have b1 : 65 ≤ (c.toNat : Int) := by omega
      have b2 : ¬ (c.toNat : Int) ≤ 90 := by omega
      have d1 : 48 ≤ (c.toNat : Int) := by omega
      have d2 : ¬ (c.toNat : Int) ≤ 57 := by omega
      rw [envC_no (by omega)]
      go_enter Tryz.func44, Tryz.ntmps44
      go_wp2
      go_ret
      exact ⟨rfl, rfl⟩
  · by_cases b1 : 65 ≤ (c.toNat : Int)
    · by_cases b2 : (c.toNat : Int) ≤ 90
      · rw [envC_yes (.inr (.inl ⟨b1, b2⟩))]
        go_enter Tryz.func44, Tryz.ntmps44
        go_wp2
        go_ret
        exact ⟨rfl, rfl⟩
      · have d1 : 48 ≤ (c.toNat : Int) := by omega
        have d2 : ¬ (c.toNat : Int) ≤ 57 := by omega
        rw [envC_no (by omega)]
        go_enter Tryz.func44, Tryz.ntmps44
        go_wp2
        go_ret
        exact ⟨rfl, rfl⟩
    · by_cases d1 : 48 ≤ (c.toNat : Int)
      · by_cases d2 : (c.toNat : Int) ≤ 57
        · rw [envC_yes (.inr (.inr ⟨d1, d2⟩))]
          go_enter Tryz.func44, Tryz.ntmps44
          go_wp2
          go_ret
          exact ⟨rfl, rfl⟩
        · rw [envC_no (by omega)]
          go_enter Tryz.func44, Tryz.ntmps44
          go_wp2
          go_ret
          exact ⟨rfl, rfl⟩
      · rw [envC_no (by omega)]
        go_enter Tryz.func44, Tryz.ntmps44
        go_wp2
        go_ret
        exact ⟨rfl, rfl⟩
def addP (o k : Bool) (p : Pm) (ps : List Pm) : List Pm := bif o && k then ps ++ [p] else ps
/-- a command under way, in a box, its parameters of the call's own -/
def AddPost (w0 : World) (L : List Piece) (B v : Nat) (x : List UInt8) (ps : List Pm) (e : Ending) (w' : World) : Prop :=
  ∃ u a cap, e = .returned u ∧ Own w0 w' (box B #[.int .u8 v, .string ⟨x.toArray⟩, .slice a ps.length cap] 24 :: rowv 48 2 (.slice a ps.length cap) ps.length (flatP ps) :: L)
theorem add7_own {w0 w : World} {L : List Piece} {B v : Nat} {x : List UInt8} {a : Option Addr} {cap : Nat} {ps : List Pm} (O : Own w0 w (box B #[.int .u8 v, .string ⟨x.toArray⟩, .slice a ps.length cap] 24 :: rowv 48 2 (.slice a ps.length cap) ps.length (flatP ps) :: L)) (hl : ps.length ≤ 1000) (o k : Bool) (p : Pm) :
    Calls Tryz.prog 41 #[.bool o, .bool k, .string ⟨p.1.toArray⟩, .string ⟨p.2.toArray⟩, .pointer (some ⟨B, 0, none⟩)] w (AddPost w0 L B v x (addP o k p ps)) := by
  have NO : (o && k) = false → AddPost w0 L B v x (addP o k p ps) (.returned (.tuple #[])) w := by
    intro h
    unfold addP; rw [h]
    exact ⟨_, a, cap, rfl, O⟩
  cases o
  · have N := Lib.hid (NO rfl)
    clear NO O
    go_enter Tryz.func41, Tryz.ntmps41
    go_wp2
    refine bodyPost_end (results_none rfl _ _ _) rfl ?_
    exact N.out
  cases k
  · have N := Lib.hid (NO rfl)
    clear NO O
    go_enter Tryz.func41, Tryz.ntmps41
    go_wp2
    refine bodyPost_end (results_none rfl _ _ _) rfl ?_
    exact N.out
  clear NO
  have c2 := O.cell 2
  have O1 := O.pick 1
  generalize hn : ps.length = n at c2 O1 hl
  have HN := Lib.hid hn
  clear hn O
  go_enter Tryz.func41, Tryz.ntmps41
  go_wp2_with (at_builtin; refine wpList_append_pmO pty_cmd rfl _ _ rfl _ _ _ p O1 rfl rfl (by omega) ?_)
  intro a2 cap2 w2 O2
  have c2' := (O2.pick 1).cell 2
  have f2 := (O2.pick 1).free
  have O3 := (O2.pick 1).set 2 (.slice a2 (n + 1) cap2)
  rw [← flatP_snoc] at O3
  go_wp2
  refine bodyPost_end (results_none rfl _ _ _) rfl ?_
  have e : (ps ++ [p]).length = n + 1 := by rw [List.length_append, HN.out]; rfl
  refine ⟨_, a2, cap2, rfl, ?_⟩
  show Own w0 _ (box B #[.int .u8 v, .string ⟨x.toArray⟩, .slice a2 (ps ++ [p]).length cap2] 24 :: rowv 48 2 (.slice a2 (ps ++ [p]).length cap2) (ps ++ [p]).length (flatP (ps ++ [p])) :: L)
  rw [e]
  exact O3
end Go.Proofs.YtehkdbgoeakgbaaGreatDoor
