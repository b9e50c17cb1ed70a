/- HeadBody: the walk. -/
import Derived.Test.YtnkcanhkdfckmaaDoorHdI
import Derived.Test.YtnkcanhkdfckmaaDoorHdYB
import Derived.Test.YtnkcanhkdfckmaaDoorSub
namespace Go.Proofs.YtnkcanhkdfckmaaDoor
set_option linter.all false
open Go.RowKit

theorem quad_take (s : List UInt8) : (s.take 4 == [13, 10, 13, 10]) = quad s := by
  rcases s with _ | ⟨a, _ | ⟨b, _ | ⟨c, _ | ⟨d, t⟩⟩⟩⟩
  · rfl
  · simp [quad]
  · simp [quad]
  · simp [quad]
  · show (a == 13 && (b == 10 && (c == 13 && (d == 10 && true)))) = ((a == 13 && b == 10) && (c == 13 && d == 10))
    cases (a == 13) <;> cases (b == 10) <;> cases (c == 13) <;> cases (d == 10) <;> rfl
theorem duo_take (s : List UInt8) : (s.take 2 == [13, 10]) = duo s := by
  rcases s with _ | ⟨a, _ | ⟨b, t⟩⟩
  · rfl
  · simp [duo]
  · show (a == 13 && (b == 10 && true)) = (a == 13 && b == 10)
    cases (a == 13) <;> cases (b == 10) <;> rfl
theorem find4_short : ∀ {s : List UInt8}, s.length < 4 → find4 s = none
  | [], _ => rfl
  | [a], _ => rfl
  | [a, b], _ => rfl
  | [a, b, c], _ => rfl
  | a :: b :: c :: d :: t, h => by simp at h; omega
theorem find4_step {s : List UInt8} {i : Nat} (h : i < s.length) : (find4 (s.drop i)).map (· + i) = if quad (s.drop i) = true then some (i + 4) else (find4 (s.drop (i + 1))).map (· + (i + 1)) := by
  rw [List.drop_eq_getElem_cons h, find4]
  by_cases q : quad (s[i] :: s.drop (i + 1)) = true
  · rw [if_pos q, if_pos q]; simp; omega
  · rw [if_neg q, if_neg q]
    cases find4 (s.drop (i + 1)) with
    | none => rfl
    | some x => simp; omega
/-- where the body begins -/
theorem body_from (s : List UInt8) : ∃ nn, nn ≤ s.length ∧ bodyL s = s.drop nn ∧ (endE true s = none → nn = s.length ∧ bodyL s = []) ∧ (∀ n, endE true s = some n → nn = n ∧ ∀ y, bodyL (s.take n ++ y) = y ∧ fieldsL (s.take n ++ y) = fieldsL s) := by
  have h := body_law s
  cases e : endE true s with
  | none =>
    rw [e] at h
    exact ⟨s.length, Nat.le_refl _, by rw [h]; simp, fun _ => ⟨rfl, h⟩, fun n q => by cases q⟩
  | some n =>
    rw [e] at h
    refine ⟨n, h.1, h.2.1, (fun q => by cases q), fun k q => ?_⟩
    cases q
    exact ⟨rfl, h.2.2⟩
def AtRel (E : Option Nat) (s : List UInt8) (i : Nat) (av : Int) : Prop := (av = -1 ∧ E = (find4 (s.drop i)).map (· + i)) ∨ ∃ n : Nat, av = (n : Int) ∧ E = some n
set_option maxRecDepth 100000 in
set_option maxHeartbeats 8000000 in
theorem headBody_walk {w : World} (m : Int) (hm : w.cell? ⟨0, 0, none⟩ = some (.int .i64 m)) (s : List UInt8) (hs : s.length ≤ 140737488351232) (y : List UInt8) (hy : y.length ≤ 140737488351232) :
    Calls Tryd.prog 7 #[.string ⟨s.toArray⟩, .string ⟨y.toArray⟩] w fun e w' => e = .returned (.bool true) ∧ Below w.heap.size w w' := by
  have O := Own.start w
  by_cases h1 : 5000 < s.length
  · have h1' : (5000 : Int) < (s.length : Int) := by omega
    go_enter Tryd.func7, Tryd.ntmps7
    go_wp2_with fail
    refine (awake9_own O hm).mono ?_
    rintro e w1 ⟨rfl, O1⟩
    go_wp2
    go_ret
    exact ⟨rfl, O1.below⟩
  have h1' : ¬ (5000 : Int) < (s.length : Int) := by omega
  by_cases h2 : 5000 < y.length
  · have h2' : (5000 : Int) < (y.length : Int) := by omega
    clear h1
    go_enter Tryd.func7, Tryd.ntmps7
    go_wp2_with fail
    refine (awake9_own O hm).mono ?_
    rintro e w1 ⟨rfl, O1⟩
    go_wp2
    go_ret
    exact ⟨rfl, O1.below⟩
  have h2' : ¬ (5000 : Int) < (y.length : Int) := by omega
  have z1 : s.length ≤ 10000000 := by omega
  have z2 : y.length ≤ 10000000 := by omega
  obtain ⟨nn, n1, n2, n3, n4⟩ := body_from s
  obtain ⟨bd, hbd⟩ : ∃ x, bodyL s = x := ⟨_, rfl⟩
  obtain ⟨E, hE⟩ : ∃ x, endE true s = x := ⟨_, rfl⟩
  have EI := Lib.hid ((endE_is s).2)
  rw [hE] at n3 n4 EI
  rw [hbd] at n2 n3
  have N3 := Lib.hid n3
  have N4 := Lib.hid n4
  have SF := run_subFrom s nn n1
  rw [← n2] at SF
  have bl : bd.length = s.length - nn := by rw [n2, List.length_drop]
  have bl9 : bd.length ≤ 10000000 := by omega
  have hnn : (s.length : Int) - (bd.length : Int) = (nn : Int) := by omega
  clear n2 n3 n4 hE bl h1 h2
  go_enter Tryd.func7, Tryd.ntmps7
  go_wp2_with fail
  refine (awake9_own O hm).mono ?_
  clear O
  rintro e w1 ⟨rfl, O⟩
  go_wp2_with fail
  refine (body_own O hm s z1 hbd).mono ?_
  clear O
  rintro e w2 ⟨rfl, O⟩
  have CS : (¬ (1 : Int) < (s.length : Int) ∧ duo s = false) ∨ (1 : Int) < (s.length : Int) := by
    by_cases q : 1 < s.length
    · exact .inr (by omega)
    · left
      refine ⟨by omega, ?_⟩
      rcases s with _ | ⟨a, _ | ⟨b, t⟩⟩
      · rfl
      · rfl
      · simp at q
  have DT := duo_take s
  obtain ⟨dq, hdq⟩ : ∃ b, duo s = b := ⟨_, rfl⟩
  rw [hdq] at CS DT EI
  have DQ := Lib.hid hdq
  clear hdq
  rcases CS with ⟨g1, g2⟩ | g1
  focus
    have AR : Hid (AtRel E s 0 (-1)) := .inl ⟨rfl, by rw [EI.out, g2, if_neg (by simp)]; simp⟩
    have hEn : E = none := by rw [EI.out, g2, if_neg (by simp)]; exact find4_short (by omega)
    obtain ⟨-, fin⟩ := N3.out hEn
    subst fin
    have hb : ¬ (0 : Int) + 4 ≤ (s.length : Int) := by omega
    clear DT g2 EI DQ AR hEn N3 N4 SF
    go_wp2_with fail
    go_loopw [7, 8] (fun av iv wr => av = .int .i64 (-1) ∧ iv = .int .i64 0 ∧ wr = w2) (fun _ _ _ => 0)
    case atStart => exact ⟨rfl, rfl, by trivial⟩
    case round =>
      obtain ⟨rfl, rfl, rfl⟩ := hrel
      go_wp2
      go_ret
      exact ⟨rfl, O.below⟩
  cases dq
  focus
    have AR : Hid (AtRel E s 0 (-1)) := .inl ⟨rfl, by rw [EI.out, if_neg (by simp)]; simp⟩
    clear EI DQ
    go_wp2_with fail
    clear g1 DT
  rotate_left
  focus
    have AR : Hid (AtRel E s 0 2) := .inr ⟨2, rfl, by rw [EI.out, if_pos rfl]⟩
    clear EI DQ
    go_wp2_with fail
    clear g1 DT
  all_goals
    go_loopw [7, 8] (fun av iv wr => ∃ (i : Nat) (a : Int), av = .int .i64 a ∧ iv = .int .i64 i ∧ i ≤ s.length ∧ Hid (AtRel E s i a) ∧ wr = w2) (fun _ iv _ => s.length - (intOf iv).toNat)
    case atStart => exact ⟨0, _, rfl, rfl, by omega, AR, by trivial⟩
    case round =>
      clear AR
      obtain ⟨i, a, rfl, rfl, hi, AR, rfl⟩ := hrel
      rcases AR.out with ⟨ha, hE⟩ | ⟨n, ha, hE⟩
      · subst ha
        by_cases h4 : i + 4 ≤ s.length
        · have hb : (i : Int) + 4 ≤ (s.length : Int) := by omega
          have ST := find4_step (s := s) (i := i) (by omega)
          have SB := run_sub s i (i + 4) (by omega) h4
          rw [show i + 4 - i = 4 by omega, show ((i + 4 : Nat) : Int) = (i : Int) + 4 by omega] at SB
          have QT := quad_take (s.drop i)
          obtain ⟨qq, hqq⟩ : ∃ b, quad (s.drop i) = b := ⟨_, rfl⟩
          rw [hqq] at QT ST
          generalize (s.drop i).take 4 = q4 at SB QT
          clear hqq AR
          cases qq
          · have NX : Hid (AtRel E s (i + 1) (-1)) := .inl ⟨rfl, by rw [hE, ST, if_neg (by simp)]⟩
            clear hE ST
            go_wp2_with fail
            go_roundw
            case rel => exact ⟨i + 1, _, rfl, by go_num, by omega, NX, by trivial⟩
            case measure => simp [intOf]; omega
          · have NX : Hid (AtRel E s (i + 1) ((i + 4 : Nat) : Int)) := .inr ⟨i + 4, rfl, by rw [hE, ST, if_pos rfl]⟩
            clear hE ST
            go_wp2_with fail
            go_roundw
            case rel => exact ⟨i + 1, ((i + 4 : Nat) : Int), by go_num, by go_num, by omega, NX, by trivial⟩
            case measure => simp [intOf]; omega
        · have hb : ¬ (i : Int) + 4 ≤ (s.length : Int) := by omega
          have hEn : E = none := by rw [hE, find4_short (by simp; omega)]; rfl
          obtain ⟨-, fin⟩ := N3.out hEn
          subst fin
          clear hE AR hEn N3 N4 SF
          go_wp2
          go_ret
          exact ⟨rfl, O.below⟩
      · subst ha
        obtain ⟨hnn2, hlaw⟩ := N4.out n hE
        subst hnn2
        obtain ⟨b1, b2⟩ := hlaw y
        obtain ⟨xs, hxs⟩ : ∃ x, fieldsL s = x := ⟨_, rfl⟩
        rw [hxs] at b2
        obtain ⟨N, hN⟩ : ∃ n, n = xs.length := ⟨_, rfl⟩
        have hNl : N ≤ 10000000 := by have := fieldsL_len s; rw [hxs, ← hN] at this; omega
        have p1 : plainB (s.take nn ++ y) = plainB s := by unfold plainB getL; rw [b2, hxs]
        have p2 : hopsN (s.take nn ++ y) = hopsN s := by unfold hopsN getL; rw [b2, hxs]
        obtain ⟨pb, hp⟩ : ∃ b, plainB s = b := ⟨_, rfl⟩
        obtain ⟨hn, hh⟩ : ∃ n, hopsN s = n := ⟨_, rfl⟩
        rw [hp] at p1
        rw [hh] at p2
        have ST := run_subTo s nn n1
        have zt : (s.take nn ++ y).length ≤ 10000000 := by
          rw [List.length_append, List.length_take]; omega
        have ztk : (s.take nn).length ≤ 10000000 := by rw [List.length_take]; omega
        have BT := Lib.hid (fun (W : World) (O : Own w W []) => body_own O hm (s.take nn ++ y) zt b1)
        have FT := Lib.hid (fun (W : World) (O : Own w W []) => fieldsN_own O hm (s.take nn ++ y) zt b2 hN)
        have PT := Lib.hid (fun (W : World) (O : Own w W []) => plain_own O hm (s.take nn ++ y) zt p1)
        have HT := Lib.hid (fun (W : World) (O : Own w W []) => hops_own O hm (s.take nn ++ y) zt p2)
        have FS := Lib.hid (fun (W : World) (L : List Piece) (O : Own w W L) => fieldsN_own O hm s z1 hxs hN)
        have PS := Lib.hid (fun (W : World) (O : Own w W []) => plain_own O hm s z1 hp)
        have HP := Lib.hid (fun (W : World) (O : Own w W []) => hops_own O hm s z1 hh)
        have HN := Lib.hid hN
        generalize s.take nn = tk at BT FT PT HT ST ztk
        clear b1 b2 hxs hN p1 p2 hp hh zt hE AR N3 N4 hlaw SF
        have hneg : ¬ (nn : Int) < 0 := by omega
        have TAIL : True := trivial
        by_cases h4 : i + 4 ≤ s.length
        focus
          have hb : (i : Int) + 4 ≤ (s.length : Int) := by omega
          go_wp2_with fail
          clear hb
        rotate_left
        focus
          have hb : ¬ (i : Int) + 4 ≤ (s.length : Int) := by omega
          go_wp2_with fail
          clear hb
        all_goals
          refine (BT.out _ O).mono ?_
          clear O
          rintro e w3 ⟨rfl, O⟩
          go_wp2_with fail
          refine (FT.out _ O).mono ?_
          clear O
          rintro e w4 ⟨a1, c1, rfl, O⟩
          go_wp2_with fail
          refine (toldTop_own O HN.out hNl).mono ?_
          clear O
          rintro e w5 ⟨a2, c2, rfl, O⟩
          go_wp2_with fail
          refine (FS.out _ _ O).mono ?_
          clear O
          rintro e w6 ⟨a3, c3, rfl, O⟩
          go_wp2_with fail
          refine (toldTop_own O HN.out hNl).mono ?_
          clear O
          rintro e w7 ⟨a4, c4, rfl, O⟩
          go_wp2_with fail
          refine (sameTop_own O HN.out HN.out hNl (b := true) (by simp)).mono ?_
          clear O
          rintro e w8 ⟨rfl, O⟩
          go_wp2_with fail
          refine (PT.out _ O).mono ?_
          clear O
          rintro e w9 ⟨rfl, O⟩
          go_wp2_with fail
          refine (PS.out _ O).mono ?_
          clear O
          rintro e w10 ⟨rfl, O⟩
          go_wp2_with fail
          refine (HT.out _ O).mono ?_
          clear O
          rintro e w11 ⟨rfl, O⟩
          go_wp2_with fail
          refine (HP.out _ O).mono ?_
          clear O
          rintro e w12 ⟨rfl, O⟩
          go_wp2
          go_ret
          exact ⟨rfl, O.below⟩
end Go.Proofs.YtnkcanhkdfckmaaDoor
