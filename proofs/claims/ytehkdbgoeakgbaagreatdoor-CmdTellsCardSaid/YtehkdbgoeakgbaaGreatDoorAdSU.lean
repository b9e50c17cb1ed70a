/- mailroomref04.Unpath. -/
import Derived.Test.YtehkdbgoeakgbaaGreatDoorCmBc
import Derived.Test.YtehkdbgoeakgbaaGreatDoorCmBd
namespace Go.Proofs.YtehkdbgoeakgbaaGreatDoor
set_option linter.all false
open Go.RowKit

theorem un_short {s : List UInt8} (h : s.length < 2) : unB s = false := by
  match s, h with
  | [], _ => rfl
  | [c], _ =>
    unfold unB unL cutPre
    by_cases e : c = 60
    · subst e; rfl
    · simp [e]
theorem un_pre {s : List UInt8} (h : (cutPre 60 s).2 = false) : unB s = false := by unfold unB; rw [h]; rfl
theorem un_suf {s : List UInt8} (h : (cutSuf 62 (cutPre 60 s).1).2 = false) : unB s = false := by unfold unB; rw [h]; simp
theorem un_in {s : List UInt8} (h1 : (cutPre 60 s).2 = true) (h2 : (cutSuf 62 (cutPre 60 s).1).2 = true) : unB s = ((unL s).isEmpty || parseB (unL s)) := by unfold unB; rw [h1, h2]; simp
set_option maxRecDepth 100000 in
set_option maxHeartbeats 4000000 in
theorem runpath_own {w0 w : World} {L : List Piece} (O : Own w0 w L) (s : List UInt8) (hs : s.length ≤ 1000000) :
    Calls Tryz.prog 39 #[.string ⟨s.toArray⟩] w fun e w' => e = .returned (unV s) ∧ Own w0 w' L := by
  have HN := fun h => Lib.hid (unV_no (s := s) h)
  have HY := fun h => Lib.hid (unV_yes (s := s) h)
  obtain ⟨r, hr⟩ : ∃ r, r = unV s := ⟨_, rfl⟩
  rw [← hr] at HY HN ⊢
  clear hr
  by_cases h2 : s.length < 2
  · have R := HN (un_short h2)
    have h2' : (s.length : Int) < 2 := by omega
    clear HN HY
    go_enter Tryz.func39, Tryz.ntmps39
    go_wp2
    go_returns
    exact ⟨congrArg Ending.returned R.out.symm, O⟩
  have h2' : ¬ (s.length : Int) < 2 := by omega
  obtain ⟨e1, e2⟩ := two_ends (s := s) (by omega) 60 62
  have p0 : 0 < s.length := by omega
  have c0 := b_is (s[0]'p0) 60 60 rfl
  rcases Bool.eq_false_or_eq_true (s[0]'p0 == 60) with q0 | q0
  rotate_left
  · have R := HN (un_pre (e1.trans q0))
    rw [q0] at c0
    have c0' : ((s[0].toNat : Int) != 60) = true := by rw [bne, c0]; rfl
    clear e1 e2 q0 HN HY
    go_enter Tryz.func39, Tryz.ntmps39
    go_wp2
    go_returns
    exact ⟨congrArg Ending.returned R.out.symm, O⟩
  obtain ⟨e3, e4⟩ := e2 (by simpa using q0)
  clear e2
  rw [q0] at c0
  have c0' : ((s[0].toNat : Int) != 60) = false := by rw [bne, c0]; rfl
  have pl : s.length - 1 < s.length := by omega
  have cl := b_is (s[s.length - 1]'pl) 62 62 rfl
  have i1 : (s.length : Int) - 1 < (s.length : Int) := by omega
  have i2 : 0 ≤ (s.length : Int) - 1 := by omega
  have i4 : 1 ≤ (s.length : Int) := by omega
  have i3 : ((s.length : Int) - 1).toNat = s.length - 1 := by omega
  rcases Bool.eq_false_or_eq_true (s[s.length - 1]'pl == 62) with ql | ql
  rotate_left
  · have R := HN (un_suf (e3.trans ql))
    rw [ql] at cl
    have cl' : ((s[s.length - 1].toNat : Int) != 62) = true := by rw [bne, cl]; rfl
    clear e1 e3 e4 q0 ql HN HY
    go_enter Tryz.func39, Tryz.ntmps39
    go_wp2
    go_returns
    exact ⟨congrArg Ending.returned R.out.symm, O⟩
  have UI := Lib.hid (un_in (e1.trans q0) (e3.trans ql))
  have UL : Hid (unL s = (s.drop 1).take (s.length - 1 - 1)) := e4 (by simpa using ql)
  rw [ql] at cl
  have cl' : ((s[s.length - 1].toNat : Int) != 62) = false := by rw [bne, cl]; rfl
  clear e1 e3 e4 q0 ql
  have hlt : ((s.drop 1).take (s.length - 1 - 1)).length = s.length - 2 := by simp; omega
  have sub := run_sub s 1 (s.length - 1) (by omega) (by omega)
  rw [show ((s.length - 1 : Nat) : Int) = (s.length : Int) - 1 by omega, show ((1 : Nat) : Int) = 1 from rfl] at sub
  rw [← UL.out] at hlt sub
  clear UL
  generalize unL s = t at UI hlt sub HY
  by_cases h3 : 2 < s.length
  · have h3' : (2 : Int) < (s.length : Int) := by omega
    have te : t.isEmpty = false := by cases t with
      | nil => simp at hlt; omega
      | cons _ _ => rfl
    rw [te] at UI
    have M := rmay_own O t (by omega)
    have UI2 : Hid (unB s = parseB t) := UI.out
    generalize parseB t = p at M UI2
    clear UI hlt
    go_enter Tryz.func39, Tryz.ntmps39
    go_wp2_with fail
    refine M.mono ?_
    clear M O
    rintro e w1 ⟨rfl, O⟩
    cases p
    · have R := HN UI2.out
      clear HN HY UI2
      go_wp2
      go_returns
      exact ⟨congrArg Ending.returned R.out.symm, O⟩
    · have R := HY UI2.out
      clear HN HY UI2
      go_wp2
      go_returns
      exact ⟨congrArg Ending.returned R.out.symm, O⟩
  · have h3' : ¬ (2 : Int) < (s.length : Int) := by omega
    have te : t.isEmpty = true := by cases t with
      | nil => rfl
      | cons _ _ => simp at hlt; omega
    rw [te] at UI
    have R := HY (by rw [UI.out]; rfl)
    clear HN HY UI hlt
    go_enter Tryz.func39, Tryz.ntmps39
    go_wp2
    go_returns
    exact ⟨congrArg Ending.returned R.out.symm, O⟩
end Go.Proofs.YtehkdbgoeakgbaaGreatDoor
