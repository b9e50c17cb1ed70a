/- mailroomref04: May, Show, Same, Path, Unpath. -/
import Derived.Test.YtlmifdkhdcbniaaDoorAdR
namespace Go.Proofs.YtlmifdkhdcbniaaDoor
set_option linter.all false
open Go.RowKit

theorem rparse_own {w0 w : World} {L : List Piece} (O : Own w0 w L) (s : List UInt8) (hs : s.length ≤ 1000000) :
    Calls Tryd.prog 16 #[.string ⟨s.toArray⟩] w fun e w' => e = .returned (parseV s) ∧ Own w0 w' L :=
  (rparse_any s hs w).mono (fun _ _ ⟨h1, h2⟩ => ⟨h1, O.pure h2⟩)
theorem rmay_own {w0 w : World} {L : List Piece} (O : Own w0 w L) (s : List UInt8) (hs : s.length ≤ 1000000) :
    Calls Tryd.prog 19 #[.string ⟨s.toArray⟩] w fun e w' => e = .returned (.bool (parseB s)) ∧ Own w0 w' L := by
  have P := rparse_own O s hs
  go_enter Tryd.func19, Tryd.ntmps19
  go_wp2_with fail
  refine P.mono ?_
  clear P O
  rintro e w1 ⟨rfl, O⟩
  rcases parse_cases s with ⟨e1, e2⟩ | ⟨e1, e2⟩
  · have E1 := Lib.hid e1
    rw [e2]
    clear e1 e2
    go_wp2
    go_ret
    rw [E1.out]; exact ⟨rfl, O⟩
  · have E1 := Lib.hid e1
    rw [e2]
    clear e1 e2
    go_wp2
    go_ret
    rw [E1.out]; exact ⟨rfl, O⟩
set_option maxHeartbeats 1000000 in
theorem rsame_own {w0 w : World} {L : List Piece} (O : Own w0 w L) (a b : List UInt8) (ha : a.length ≤ 1000000) (hb : b.length ≤ 1000000) :
    Calls Tryd.prog 21 #[.string ⟨a.toArray⟩, .string ⟨b.toArray⟩] w fun e w' => e = .returned (.bool (sameB a b)) ∧ Own w0 w' L := by
  have P := rparse_own O a ha
  have SB : Hid (sameB a b = (parseB a && (parseB b && ((locL a == locL b) && (domL a == domL b))))) := rfl
  generalize sameB a b = res at SB ⊢
  go_enter Tryd.func21, Tryd.ntmps21
  go_wp2_with fail
  refine P.mono ?_
  clear P O
  rintro e w1 ⟨rfl, O⟩
  have P := rparse_own O b hb
  rcases parse_cases a with ⟨e1, e2⟩ | ⟨e1, e2⟩
  · rw [e1] at SB
    rw [e2]
    clear e1 e2
    go_wp2_with fail
    refine P.mono ?_
    clear P O
    rintro e w2 ⟨rfl, O⟩
    rcases parse_cases b with ⟨e1, e2⟩ | ⟨e1, e2⟩
    · rw [e1] at SB
      rw [e2]
      clear e1 e2
      generalize locL a = l1 at SB ⊢
      generalize domL a = d1 at SB ⊢
      generalize locL b = l2 at SB ⊢
      generalize domL b = d2 at SB ⊢
      rcases Bool.eq_false_or_eq_true (l1 == l2) with q1 | q1
      · rcases Bool.eq_false_or_eq_true (d1 == d2) with q2 | q2
        · rw [q1, q2] at SB
          go_wp2
          go_ret
          rw [SB.out]; exact ⟨rfl, O⟩
        · rw [q1, q2] at SB
          go_wp2
          go_ret
          rw [SB.out]; exact ⟨rfl, O⟩
      · rw [q1] at SB
        go_wp2
        go_ret
        rw [SB.out]; exact ⟨rfl, O⟩
    · rw [e1] at SB
      rw [e2]
      clear e1 e2
      go_wp2
      go_ret
      rw [SB.out]; exact ⟨rfl, O⟩
  · rw [e1] at SB
    rw [e2]
    clear e1 e2
    go_wp2_with fail
    refine P.mono ?_
    clear P O
    rintro e w2 ⟨rfl, O⟩
    rcases parse_cases b with ⟨e1, e2⟩ | ⟨e1, e2⟩
    · rw [e2]
      clear e1 e2
      go_wp2
      go_ret
      rw [SB.out]; exact ⟨rfl, O⟩
    · rw [e2]
      clear e1 e2
      go_wp2
      go_ret
      rw [SB.out]; exact ⟨rfl, O⟩
set_option maxHeartbeats 1000000 in
theorem rshow_own {w0 w : World} {L : List Piece} (O : Own w0 w L) (l d : List UInt8) (hl : l.length ≤ 400000) (hd : d.length ≤ 400000) :
    Calls Tryd.prog 23 #[.string ⟨l.toArray⟩, .string ⟨d.toArray⟩] w fun e w' => e = .returned (.string ⟨(showL l d).toArray⟩) ∧ Own w0 w' L := by
  have P := rparse_own O (l ++ 64 :: d) (by simp; omega)
  have SB : Hid (showB l d = (parseB (l ++ 64 :: d) && ((locL (l ++ 64 :: d) == l) && (domL (l ++ 64 :: d) == d)))) := rfl
  have X : Hid ((l ++ [64]) ++ d = l ++ 64 :: d) := by unfold Hid; simp
  obtain ⟨r, hr⟩ : ∃ r, r = showL l d := ⟨_, rfl⟩
  rw [← hr]
  have HR := Lib.hid hr
  clear hr
  have HY := fun h => Lib.hid (show_yes (l := l) (d := d) h)
  have HN := fun h => Lib.hid (show_no (l := l) (d := d) h)
  generalize showB l d = b at SB HY HN
  generalize hx : l ++ 64 :: d = x at P SB HY X
  have XO := X.out
  go_enter Tryd.func23, Tryd.ntmps23
  go_wp2_with fail
  refine P.mono ?_
  clear P O
  rintro e w1 ⟨rfl, O⟩
  rcases parse_cases x with ⟨e1, e2⟩ | ⟨e1, e2⟩
  · rw [e1] at SB
    rw [e2]
    clear e1 e2
    generalize locL x = l1 at SB ⊢
    generalize domL x = d1 at SB ⊢
    rcases Bool.eq_false_or_eq_true (l1 == l) with q1 | q1
    · have n1 : (l1 != l) = false := by rw [bne, q1]; rfl
      rcases Bool.eq_false_or_eq_true (d1 == d) with q2 | q2
      · have n2 : (d1 != d) = false := by rw [bne, q2]; rfl
        have R := HY (SB.out.trans (by rw [q1, q2]; rfl))
        clear SB HN HY n1 n2
        go_wp2
        go_ret
        rw [HR.out, R.out]; exact ⟨rfl, O⟩
      · have n2 : (d1 != d) = true := by rw [bne, q2]; rfl
        have R := HN (SB.out.trans (by rw [q2]; simp))
        clear SB HN HY n1 n2
        go_wp2
        go_ret
        rw [HR.out, R.out]; exact ⟨rfl, O⟩
    · have n1 : (l1 != l) = true := by rw [bne, q1]; rfl
      have R := HN (SB.out.trans (by rw [q1]; simp))
      clear SB HN HY n1
      go_wp2
      go_ret
      rw [HR.out, R.out]; exact ⟨rfl, O⟩
  · rw [e1] at SB
    rw [e2]
    have R := HN SB.out
    clear e1 e2 SB HN HY
    go_wp2
    go_ret
    rw [HR.out, R.out]; exact ⟨rfl, O⟩
theorem rpath_own {w0 w : World} {L : List Piece} (O : Own w0 w L) (s : List UInt8) (hs : s.length ≤ 1000000) :
    Calls Tryd.prog 20 #[.string ⟨s.toArray⟩] w fun e w' => e = .returned (.string ⟨(pathL s).toArray⟩) ∧ Own w0 w' L := by
  have M := rmay_own O s hs
  rcases Bool.eq_false_or_eq_true s.isEmpty with q1 | q1
  · have R := Lib.hid (pathL_emp q1)
    have q2 : (!s.isEmpty) = false := by rw [q1]; rfl
    clear M
    go_enter Tryd.func20, Tryd.ntmps20
    go_wp2
    go_ret
    rw [R.out]; exact ⟨rfl, O⟩
  · have q2 : (!s.isEmpty) = true := by rw [q1]; rfl
    rcases Bool.eq_false_or_eq_true (parseB s) with p1 | p1
    · have R := Lib.hid (pathL_yes p1)
      rw [p1] at M
      go_enter Tryd.func20, Tryd.ntmps20
      go_wp2_with fail
      refine M.mono ?_
      clear M O
      rintro e w1 ⟨rfl, O⟩
      go_wp2
      go_ret
      rw [R.out]; exact ⟨rfl, O⟩
    · have R := Lib.hid (pathL_no q1 p1)
      rw [p1] at M
      go_enter Tryd.func20, Tryd.ntmps20
      go_wp2_with fail
      refine M.mono ?_
      clear M O
      rintro e w1 ⟨rfl, O⟩
      go_wp2
      go_ret
      rw [R.out]; exact ⟨rfl, O⟩

theorem un_short {s : List UInt8} (h : s.length < 2) : unB s = false := by
  match s, h with
  | [], _ => rfl
  | [c], _ =>
    unfold unB unL cutPre
    by_cases e : c = 60
    · subst e; rfl
    · simp [e]
theorem un_pre {s : List UInt8} (h : (cutPre 60 s).2 = false) : unB s = false := by unfold unB; rw [h]; rfl
theorem un_suf {s : List UInt8} (h : (cutSuf 62 (cutPre 60 s).1).2 = false) : unB s = false := by unfold unB; rw [h]; simp
theorem un_in {s : List UInt8} (h1 : (cutPre 60 s).2 = true) (h2 : (cutSuf 62 (cutPre 60 s).1).2 = true) : unB s = ((unL s).isEmpty || parseB (unL s)) := by unfold unB; rw [h1, h2]; simp
set_option maxRecDepth 100000 in
set_option maxHeartbeats 4000000 in
theorem runpath_own {w0 w : World} {L : List Piece} (O : Own w0 w L) (s : List UInt8) (hs : s.length ≤ 1000000) :
    Calls Tryd.prog 18 #[.string ⟨s.toArray⟩] w fun e w' => e = .returned (unV s) ∧ Own w0 w' L := by
  have HN := fun h => Lib.hid (unV_no (s := s) h)
  have HY := fun h => Lib.hid (unV_yes (s := s) h)
  obtain ⟨r, hr⟩ : ∃ r, r = unV s := ⟨_, rfl⟩
  rw [← hr] at HY HN ⊢
  clear hr
  by_cases h2 : s.length < 2
  · have R := HN (un_short h2)
    have h2' : (s.length : Int) < 2 := by omega
    clear HN HY
    go_enter Tryd.func18, Tryd.ntmps18
    go_wp2
    go_returns
    exact ⟨congrArg Ending.returned R.out.symm, O⟩
  have h2' : ¬ (s.length : Int) < 2 := by omega
  obtain ⟨e1, e2⟩ := two_ends (s := s) (by omega) 60 62
  have p0 : 0 < s.length := by omega
  have c0 := b_is (s[0]'p0) 60 60 rfl
  rcases Bool.eq_false_or_eq_true (s[0]'p0 == 60) with q0 | q0
  rotate_left
  · have R := HN (un_pre (e1.trans q0))
    rw [q0] at c0
    have c0' : ((s[0].toNat : Int) != 60) = true := by rw [bne, c0]; rfl
    clear e1 e2 q0 HN HY
    go_enter Tryd.func18, Tryd.ntmps18
    go_wp2
    go_returns
    exact ⟨congrArg Ending.returned R.out.symm, O⟩
  obtain ⟨e3, e4⟩ := e2 (by simpa using q0)
  clear e2
  rw [q0] at c0
  have c0' : ((s[0].toNat : Int) != 60) = false := by rw [bne, c0]; rfl
  have pl : s.length - 1 < s.length := by omega
  have cl := b_is (s[s.length - 1]'pl) 62 62 rfl
  have i1 : (s.length : Int) - 1 < (s.length : Int) := by omega
  have i2 : 0 ≤ (s.length : Int) - 1 := by omega
  have i4 : 1 ≤ (s.length : Int) := by omega
  have i3 : ((s.length : Int) - 1).toNat = s.length - 1 := by omega
  rcases Bool.eq_false_or_eq_true (s[s.length - 1]'pl == 62) with ql | ql
  rotate_left
  · have R := HN (un_suf (e3.trans ql))
    rw [ql] at cl
    have cl' : ((s[s.length - 1].toNat : Int) != 62) = true := by rw [bne, cl]; rfl
    clear e1 e3 e4 q0 ql HN HY
    go_enter Tryd.func18, Tryd.ntmps18
    go_wp2
    go_returns
    exact ⟨congrArg Ending.returned R.out.symm, O⟩
  have UI := Lib.hid (un_in (e1.trans q0) (e3.trans ql))
  have UL : Hid (unL s = (s.drop 1).take (s.length - 1 - 1)) := e4 (by simpa using ql)
  rw [ql] at cl
  have cl' : ((s[s.length - 1].toNat : Int) != 62) = false := by rw [bne, cl]; rfl
  clear e1 e3 e4 q0 ql
  have hlt : ((s.drop 1).take (s.length - 1 - 1)).length = s.length - 2 := by simp; omega
  have sub := run_sub s 1 (s.length - 1) (by omega) (by omega)
  rw [show ((s.length - 1 : Nat) : Int) = (s.length : Int) - 1 by omega, show ((1 : Nat) : Int) = 1 from rfl] at sub
  rw [← UL.out] at hlt sub
  clear UL
  generalize unL s = t at UI hlt sub HY
  by_cases h3 : 2 < s.length
  · have h3' : (2 : Int) < (s.length : Int) := by omega
    have te : t.isEmpty = false := by cases t with
      | nil => simp at hlt; omega
      | cons _ _ => rfl
    rw [te] at UI
    have M := rmay_own O t (by omega)
    have UI2 : Hid (unB s = parseB t) := UI.out
    generalize parseB t = p at M UI2
    clear UI hlt
    go_enter Tryd.func18, Tryd.ntmps18
    go_wp2_with fail
    refine M.mono ?_
    clear M O
    rintro e w1 ⟨rfl, O⟩
    cases p
    · have R := HN UI2.out
      clear HN HY UI2
      go_wp2
      go_returns
      exact ⟨congrArg Ending.returned R.out.symm, O⟩
    · have R := HY UI2.out
      clear HN HY UI2
      go_wp2
      go_returns
      exact ⟨congrArg Ending.returned R.out.symm, O⟩
  · have h3' : ¬ (2 : Int) < (s.length : Int) := by omega
    have te : t.isEmpty = true := by cases t with
      | nil => rfl
      | cons _ _ => simp at hlt; omega
    rw [te] at UI
    have R := HY (by rw [UI.out]; rfl)
    clear HN HY UI hlt
    go_enter Tryd.func18, Tryd.ntmps18
    go_wp2
    go_returns
    exact ⟨congrArg Ending.returned R.out.symm, O⟩
end Go.Proofs.YtlmifdkhdcbniaaDoor
