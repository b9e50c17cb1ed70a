/- AddrBack: the walk. -/
import Derived.Test.YtlmifdkhdcbniaaDoorAddrSame
import Derived.Test.YtlmifdkhdcbniaaDoorAdP
namespace Go.Proofs.YtlmifdkhdcbniaaDoor
set_option linter.all false
open Go.RowKit

theorem show_is {w0 w : World} {L : List Piece} (K : Kinds w0) (O : Own w0 w L) {l d r : List UInt8} (hr : showL l d = r) (hl : l.length ≤ 40000000) (hd : d.length ≤ 40000000) :
    Calls Tryd.prog 22 #[.string ⟨l.toArray⟩, .string ⟨d.toArray⟩] w fun e w' => e = .returned (.string ⟨r.toArray⟩) ∧ Own w0 w' L := by rw [← hr]; exact show_own K O l d hl hd
theorem long2_any (s t : List UInt8) (hs : s.length ≤ 140737488351232) (ht : t.length ≤ 140737488351232) (w1 : World) :
    Calls Tryd.prog 10 #[.slice (some ⟨w1.heap.size, 0, none⟩) 2 2] (w1.alloc (.cells #[str s, str t] 9)) (LongPost [s, t] (w1.alloc (.cells #[str s, str t] 9))) :=
  long4_any [s, t] _ _ _ (strsR_lit w1 [s, t] 9) (by
    intro j h
    simp at h
    obtain rfl | rfl : j = 0 ∨ j = 1 := by omega
    · exact hs
    · exact ht) (by simp)
set_option maxRecDepth 100000 in
set_option maxHeartbeats 8000000 in
theorem addrBack_walk {w : World} (K : Kinds w) (s : List UInt8) (hs : s.length ≤ 140737488351232) (t : List UInt8) (ht : t.length ≤ 140737488351232) :
    Calls Tryd.prog 5 #[.string ⟨s.toArray⟩, .string ⟨t.toArray⟩] w fun e w' => e = .returned (.bool true) ∧ Below w.heap.size w w' := by
  have O := Own.start w
  go_enter Tryd.func5, Tryd.ntmps5
  go_wp2_with fail
  refine (works4_own K O).mono ?_
  clear O
  rintro e w1 ⟨rfl, O⟩
  have LG := long2_any s t hs ht w1
  replace O := O.alloc (.cells #[str s, str t] 9)
  go_wp2_with fail
  refine LG.mono ?_
  clear LG
  rintro e w2 ⟨r, rfl, rfl, hr⟩
  cases r
  rotate_left
  · clear hr
    go_wp2_with fail
    refine (works4_own K O).mono ?_
    clear O
    rintro e w1 ⟨rfl, O⟩
    go_wp2
    go_ret
    exact ⟨rfl, O.below⟩
  have ls : s.length ≤ 9000 := hr rfl s (by simp)
  have lt : t.length ≤ 9000 := hr rfl t (by simp)
  clear hr hs ht
  go_wp2_with fail
  refine (parse_own K O s (by omega)).mono ?_
  clear O
  rintro e w2 ⟨rfl, O⟩
  rcases parse_cases s with ⟨e1, e2⟩ | ⟨e1, e2⟩
  focus
    rw [e2]
    clear e2
    have PP := parts_of e1
    have E1 := Lib.hid e1
    clear e1
    obtain ⟨p1, p2, p3, p4, p5, p6⟩ := PP
    generalize locL s = l at p1 p2 p3 p4 p5 p6 ⊢
    generalize domL s = d at p1 p2 p3 p4 p5 p6 ⊢
    have P4 := Lib.hid p4
    have P5 := Lib.hid p5
    have P6 := Lib.hid p6
    clear p4 p5 p6
    go_wp2_with fail
    refine (amay_is K O E1.out (by omega)).mono ?_
    clear O
    rintro e w3 ⟨rfl, O⟩
    go_wp2_with fail
    refine (show_is K O (show_yes P5.out) (by omega) (by omega)).mono ?_
    clear O
    rintro e w3 ⟨rfl, O⟩
    have lx : (l ++ 64 :: d).length = s.length := by simp; omega
    generalize l ++ 64 :: d = x at P6 lx ⊢
    go_wp2_with fail
    refine (same_is K O P6.out (by omega) (by omega)).mono ?_
    clear O
    rintro e w3 ⟨rfl, O⟩
    clear lx
    go_wp2_with fail
    refine (may_any d _ (by omega)).mono ?_
    rintro e w4 ⟨rfl, ch⟩
    replace O := O.pure ch
    rw [P4.out]
    clear ch P4 P5 P6
    have q1 : ¬ (l.length : Int) < 1 := by omega
    have q2 : ¬ (64 : Int) < (l.length : Int) := by omega
    have s1 : IntKind.i64.wrap ((l.length : Int) + 1) = (l.length : Int) + 1 := IntWalk.i64_in _ (by omega)
    have s2 : IntKind.i64.wrap ((l.length : Int) + 1 + (d.length : Int)) = (s.length : Int) := by rw [IntWalk.i64_in _ (by omega)]; omega
    have s3 : ((s.length : Int) != (s.length : Int)) = false := by simp
    have q0 : (l.length : Int) + 1 + (d.length : Int) = (s.length : Int) := by omega
    clear p1 p2 p3
    go_wp2_with fail
  rotate_left
  focus
    rw [e2]
    clear e2
    have E1 := Lib.hid e1
    clear e1
    go_wp2_with fail
    refine (amay_is K O E1.out (by omega)).mono ?_
    clear O
    rintro e w3 ⟨rfl, O⟩
    go_wp2_with fail
  all_goals
    rcases Bool.eq_false_or_eq_true (showB s t) with hb | hb
  all_goals first
  | (have hx := show_no hb
     clear hb
     (with_reducible refine (show_is K O hx (by omega) (by omega)).mono ?_)
     clear O hx
     rintro e w5 ⟨rfl, O⟩
     go_wp2_with fail)
  | (have hx := show_yes hb
     have XB : Hid (parseV (s ++ 64 :: t) = .tuple #[.string ⟨s.toArray⟩, .string ⟨t.toArray⟩, .int .i64 0]) := by
       unfold showB at hb
       simp only [Bool.and_eq_true, beq_iff_eq] at hb
       unfold Hid
       rw [parseV_true hb.1, hb.2.1, hb.2.2]
     have XO : s ++ [64] ++ t = s ++ 64 :: t := by simp
     have XL : (s ++ 64 :: t).length ≤ 20000 := by simp; omega
     have XE : (s ++ 64 :: t).isEmpty = false := by simp
     clear hb
     generalize s ++ 64 :: t = x at hx XB XO XL XE
     (with_reducible refine (show_is K O hx (by omega) (by omega)).mono ?_)
     clear O hx
     rintro e w5 ⟨rfl, O⟩
     go_wp2_with fail
     (with_reducible refine (parse_is K O XB.out (by omega)).mono ?_)
     clear O XB
     rintro e w6 ⟨rfl, O⟩
     have n1 : (s != s) = false := by simp
     have n2 : (t != t) = false := by simp
     have n3 : (x != x) = false := by simp
     go_wp2_with fail
     clear XO XL XE n1 n2 n3)
  -- what Path tells of s
  all_goals
    rcases Bool.eq_false_or_eq_true s.isEmpty with hs0 | hs0
  all_goals rcases Bool.eq_false_or_eq_true (parseB s) with hs1 | hs1
  all_goals first
  | (exfalso
     have : s = [] := by simpa using hs0
     subst this
     revert hs1
     decide +kernel)
  | (have hq : (s.isEmpty || parseB s) = true := by rw [hs0, hs1]; rfl
     obtain ⟨u1, u2⟩ := un_path hq
     have UL : (60 :: s ++ [62]).length ≤ 10000 := by simp; omega
     have UE : (60 :: s ++ [62]).isEmpty = false := by simp
     clear hq
     generalize 60 :: s ++ [62] = p at u1 u2 UL UE
     (with_reducible refine (path_is K O u1 (by omega)).mono ?_)
     clear O u1
     rintro e w8 ⟨rfl, O⟩
     go_wp2_with fail
     (with_reducible refine (unpath_is K O u2 (by omega)).mono ?_)
     clear O u2
     rintro e w9 ⟨rfl, O⟩
     have HP1 := Lib.hid hs1
     have n1 : (s != s) = false := by simp
     clear hs1
     first
     | (have hs2 : s = [] := by simpa using hs0
        subst hs2
        go_wp2_with fail
        clear UE UL HP1 n1)
     | (go_wp2_with fail
        (with_reducible refine (amay_is K O HP1.out (by omega)).mono ?_)
        clear O
        rintro e w10 ⟨rfl, O⟩
        go_wp2_with fail
        clear UE UL HP1 n1))
  | (have u1 := pathL_no hs0 hs1
     (with_reducible refine (path_is K O u1 (by omega)).mono ?_)
     clear O u1
     rintro e w8 ⟨rfl, O⟩
     go_wp2_with fail
     (with_reducible refine (unpath_is K O un_empty (by simp)).mono ?_)
     clear O
     rintro e w9 ⟨rfl, O⟩
     have HP1 := Lib.hid hs1
     clear hs1
     go_wp2_with fail
     (with_reducible refine (amay_is K O HP1.out (by omega)).mono ?_)
     clear O
     rintro e w10 ⟨rfl, O⟩
     go_wp2_with fail
     clear HP1)
  -- what Unpath tells of t
  all_goals rcases Bool.eq_false_or_eq_true (unB t) with hu | hu
  all_goals first
  | (have u1 := unV_no hu
     clear hu
     (with_reducible refine (unpath_is K O u1 (by omega)).mono ?_)
     clear O u1
     rintro e w12 ⟨rfl, O⟩
     go_wp2
     go_ret
     exact ⟨rfl, O.below⟩)
  | (have u1 := unV_yes hu
     obtain ⟨u2, u3⟩ := path_un hu
     have ul : (unL t).length ≤ 9000 := Nat.le_trans (Nat.le_trans (cutSuf_le _ _) (cutPre_le _ _)) lt
     clear hu
     generalize unL t = q at u1 u2 u3 ul
     have U3 := Lib.hid u3
     clear u3
     (with_reducible refine (unpath_is K O u1 (by omega)).mono ?_)
     clear O u1
     rintro e w12 ⟨rfl, O⟩
     go_wp2_with fail
     (with_reducible refine (path_is K O u2 (by omega)).mono ?_)
     clear O u2
     rintro e w13 ⟨rfl, O⟩
     rcases Bool.eq_false_or_eq_true q.isEmpty with hq | hq
     · have hq2 : q = [] := by simpa using hq
       subst hq2
       go_wp2
       go_ret
       exact ⟨rfl, O.below⟩
     · have hq3 : parseB q = true := by have := U3.out; rw [hq] at this; simpa using this
       have HQ := Lib.hid hq3
       clear hq3 U3
       go_wp2_with fail
       (with_reducible refine (amay_is K O HQ.out (by omega)).mono ?_)
       clear O
       rintro e w14 ⟨rfl, O⟩
       go_wp2
       go_ret
       exact ⟨rfl, O.below⟩)
end Go.Proofs.YtlmifdkhdcbniaaDoor
