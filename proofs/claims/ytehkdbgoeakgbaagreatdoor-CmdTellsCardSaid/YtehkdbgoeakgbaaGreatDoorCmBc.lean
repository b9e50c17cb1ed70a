/- merged: NameG NameH NameI NameL AdQ AdR AdS (wip/merge.py) -/
import Derived.Test.YtehkdbgoeakgbaaGreatDoorCmBb
import Derived.Test.YtehkdbgoeakgbaaGreatDoorCmBd
/- mailroomref03: digit, letter, digits, label, Cut. -/
namespace Go.Proofs.YtehkdbgoeakgbaaGreatDoor
set_option linter.all false
open Go.RowKit Go.Shelf

def ltr (c : UInt8) : Bool := decide (97 ≤ c.toNat ∧ c.toNat ≤ 122)
theorem digit_any (c : UInt8) (b : Bool) (hb : dig c = b) (w : World) : Calls Tryz.prog 71 #[.int .u8 (c.toNat : Int)] w fun e w' => e = .returned (.bool b) ∧ w = w' := by
  subst hb
  by_cases h1 : 48 ≤ (c.toNat : Int)
  · by_cases h2 : (c.toNat : Int) ≤ 57
    · have E := Lib.hid (dig_true ⟨h1, h2⟩)
      go_enter Tryz.func71, Tryz.ntmps71
      go_wp2
      go_ret
      exact ⟨ret_bool (by first | (rw [E.out]; done) | (rw [E.out]; simp; omega)), rfl⟩
    · have E := Lib.hid (dig_false (c := c) (by omega))
      have h2' : decide ((c.toNat : Int) ≤ 57) = false := by simp; omega
      go_enter Tryz.func71, Tryz.ntmps71
      go_wp2
      go_ret
      exact ⟨ret_bool (by first | (rw [E.out]; done) | (rw [E.out]; simp; omega)), rfl⟩
  · have E := Lib.hid (dig_false (c := c) (by omega))
    go_enter Tryz.func71, Tryz.ntmps71
    go_wp2
    go_ret
    exact ⟨ret_bool (by first | (rw [E.out]; done) | (rw [E.out]; simp; omega)), rfl⟩
theorem letter3_any (c : UInt8) (b : Bool) (hb : ltr c = b) (w : World) : Calls Tryz.prog 72 #[.int .u8 (c.toNat : Int)] w fun e w' => e = .returned (.bool b) ∧ w = w' := by
  subst hb
  by_cases h1 : 97 ≤ (c.toNat : Int)
  · by_cases h2 : (c.toNat : Int) ≤ 122
    · have E : Hid (ltr c = true) := by unfold Hid ltr; rw [decide_eq_true_eq]; omega
      go_enter Tryz.func72, Tryz.ntmps72
      go_wp2
      go_ret
      exact ⟨ret_bool (by first | (rw [E.out]; done) | (rw [E.out]; simp; omega)), rfl⟩
    · have E : Hid (ltr c = false) := by unfold Hid ltr; rw [decide_eq_false_iff_not]; omega
      have h2' : decide ((c.toNat : Int) ≤ 122) = false := by simp; omega
      go_enter Tryz.func72, Tryz.ntmps72
      go_wp2
      go_ret
      exact ⟨ret_bool (by first | (rw [E.out]; done) | (rw [E.out]; simp; omega)), rfl⟩
  · have E : Hid (ltr c = false) := by unfold Hid ltr; rw [decide_eq_false_iff_not]; omega
    go_enter Tryz.func72, Tryz.ntmps72
    go_wp2
    go_ret
    exact ⟨ret_bool (by first | (rw [E.out]; done) | (rw [E.out]; simp; omega)), rfl⟩
theorem digits3_any (l : List UInt8) (w : World) (hl : l.length ≤ 1000000000) (b : Bool) (hb : l.all dig = b) : Calls Tryz.prog 52 #[.string ⟨l.toArray⟩] w fun e w' => e = .returned (.bool b) ∧ w = w' := by
  have HB := Lib.hid hb; clear hb
  go_enter Tryz.func52, Tryz.ntmps52
  go_wp2
  go_loop [3] (fun i => ∃ k : Nat, k ≤ l.length ∧ i = .int .i64 k ∧ (l.take k).all dig = true) (fun i => l.length - (intOf i).toNat)
  case atStart => exact ⟨0, by omega, rfl, rfl⟩
  case round =>
    obtain ⟨k, hk, rfl, ha⟩ := hrel
    have HA := Lib.hid ha; clear ha
    by_cases hlt : k < l.length
    · have hb1 : (k : Int) < (l.length : Int) := by omega
      cases hd : dig l[k]
      · have HD := Lib.hid hd; clear hd
        go_wp2_with fail
        refine (digit_any _ _ HD.out _).mono ?_
        rintro e w1 ⟨rfl, rfl⟩
        go_wp2
        go_ret
        exact ⟨ret_bool (by rw [← HB.out, all_not hlt HD.out]), rfl⟩
      · have HD := Lib.hid hd; clear hd
        go_wp2_with fail
        refine (digit_any _ _ HD.out _).mono ?_
        rintro e w1 ⟨rfl, rfl⟩
        go_wp2
        go_round
        case rel => exact ⟨k + 1, by omega, by go_num, all_snoc hlt HA.out HD.out⟩
        case measure => simp [intOf]; omega
    · obtain rfl : k = l.length := by omega
      go_wp2
      go_ret
      have h1 := HA.out
      rw [List.take_length] at h1
      exact ⟨ret_bool (by rw [← HB.out, h1]), rfl⟩
theorem lab_parts (c : UInt8) : (lab c = true ∧ ((dig c = true) ∨ (dig c = false ∧ ltr c = true) ∨ (dig c = false ∧ ltr c = false ∧ (c.toNat : Int) = 45))) ∨ (lab c = false ∧ dig c = false ∧ ltr c = false ∧ ¬ (c.toNat : Int) = 45) := by
  unfold lab dig ltr
  simp only [Bool.or_eq_true, decide_eq_true_eq, Bool.or_eq_false_iff, decide_eq_false_iff_not]
  omega
set_option maxHeartbeats 1000000 in
theorem label3_any (l : List UInt8) (w : World) (hs : l.length ≤ 1000000000) (b : Bool) (hb : labelOk l = b) :
    Calls Tryz.prog 53 #[.string ⟨l.toArray⟩] w fun e w' => e = .returned (.bool b) ∧ w = w' := by
  have HB := Lib.hid hb; clear hb
  go_enter Tryz.func53, Tryz.ntmps53
  by_cases h1 : l.length = 0
  · have h1' : ((l.length : Int) == 0) = true := by simp; exact List.eq_nil_of_length_eq_zero h1
    have E := Lib.hid (labelOk_no (l := l) (by omega))
    go_wp2
    go_ret
    exact ⟨ret_bool (by rw [← HB.out, E.out]), rfl⟩
  have h1' : ((l.length : Int) == 0) = false := by simp; rintro rfl; simp at h1
  by_cases h2 : 63 < l.length
  · have h2' : decide ((63 : Int) < (l.length : Int)) = true := by simp; omega
    have E := Lib.hid (labelOk_no (l := l) (by omega))
    go_wp2
    go_ret
    exact ⟨ret_bool (by rw [← HB.out, E.out]), rfl⟩
  have h2' : decide ((63 : Int) < (l.length : Int)) = false := by simp; omega
  have l0 : 0 < l.length := by omega
  have g0 := Lib.hid (getD_lt l 0 l0)
  have gl := Lib.hid (getD_lt l (l.length - 1) (by omega))
  by_cases h3 : (l[0].toNat : Int) = 45
  · have h3' : ((l[0].toNat : Int) == 45) = true := by simp [h3]
    have E := Lib.hid (labelOk_no (l := l) (by rw [g0.out]; omega))
    clear h3
    go_wp2
    go_ret
    exact ⟨ret_bool (by rw [← HB.out, E.out]), rfl⟩
  have h3' : ((l[0].toNat : Int) == 45) = false := by simpa using h3
  have q4 : l.length - 1 < l.length := by omega
  have q1 : (l.length : Int) - 1 < (l.length : Int) := by omega
  have q2 : 0 ≤ (l.length : Int) - 1 := by omega
  have q3 : ((l.length : Int) - 1).toNat = l.length - 1 := by omega
  by_cases h4 : ((l[l.length - 1]'q4).toNat : Int) = 45
  · have h4' : (((l[l.length - 1]'q4).toNat : Int) == 45) = true := by simp [h4]
    have E := Lib.hid (labelOk_no (l := l) (by rw [gl.out]; omega))
    clear h3 h4
    go_wp2
    go_ret
    exact ⟨ret_bool (by rw [← HB.out, E.out]), rfl⟩
  have h4' : (((l[l.length - 1]'q4).toNat : Int) == 45) = false := by simpa using h4
  have EE : Hid (labelOk l = l.all lab) := by
    unfold Hid labelOk
    rw [decide_eq_true (by rw [g0.out, gl.out]; omega)]; rfl
  clear h3 h4
  go_wp2
  go_loop [3] (fun i => ∃ k : Nat, k ≤ l.length ∧ i = .int .i64 k ∧ (l.take k).all lab = true) (fun i => l.length - (intOf i).toNat)
  case atStart => exact ⟨0, by omega, rfl, rfl⟩
  case round =>
    clear g0 gl h3' h4'
    obtain ⟨k, hk, rfl, ha⟩ := hrel
    have HA := Lib.hid ha; clear ha
    by_cases hlt : k < l.length
    · have hb1 : (k : Int) < (l.length : Int) := by omega
      rcases lab_parts l[k] with ⟨e, e1 | ⟨e1, e2⟩ | ⟨e1, e2, e3⟩⟩ | ⟨e, e1, e2, e3⟩
      · have E := Lib.hid e; have E1 := Lib.hid e1; clear e e1
        go_wp2_with fail
        refine (digit_any _ _ E1.out _).mono ?_
        rintro e w1 ⟨rfl, rfl⟩
        go_wp2_with fail
        go_round
        case rel => exact ⟨k + 1, by omega, by go_num, all_snoc hlt HA.out E.out⟩
        case measure => simp [intOf]; omega
      · have E := Lib.hid e; have E1 := Lib.hid e1; have E2 := Lib.hid e2; clear e e1 e2
        go_wp2_with fail
        refine (digit_any _ _ E1.out _).mono ?_
        rintro e w1 ⟨rfl, rfl⟩
        go_wp2_with fail
        refine (letter3_any _ _ E2.out _).mono ?_
        rintro e w1 ⟨rfl, rfl⟩
        go_wp2_with fail
        go_round
        case rel => exact ⟨k + 1, by omega, by go_num, all_snoc hlt HA.out E.out⟩
        case measure => simp [intOf]; omega
      · have E := Lib.hid e; have E1 := Lib.hid e1; have E2 := Lib.hid e2; clear e e1 e2
        have f1 : ((l[k].toNat : Int) != 45) = false := by simp; omega
        clear e3
        go_wp2_with fail
        refine (digit_any _ _ E1.out _).mono ?_
        rintro e w1 ⟨rfl, rfl⟩
        go_wp2_with fail
        refine (letter3_any _ _ E2.out _).mono ?_
        rintro e w1 ⟨rfl, rfl⟩
        go_wp2_with fail
        go_round
        case rel => exact ⟨k + 1, by omega, by go_num, all_snoc hlt HA.out E.out⟩
        case measure => simp [intOf]; omega
      · have E := Lib.hid e; have E1 := Lib.hid e1; have E2 := Lib.hid e2; clear e e1 e2
        have f1 : ((l[k].toNat : Int) != 45) = true := by simp; omega
        clear e3
        go_wp2_with fail
        refine (digit_any _ _ E1.out _).mono ?_
        rintro e w1 ⟨rfl, rfl⟩
        go_wp2_with fail
        refine (letter3_any _ _ E2.out _).mono ?_
        rintro e w1 ⟨rfl, rfl⟩
        go_wp2
        go_ret
        exact ⟨ret_bool (by rw [← HB.out, EE.out, all_not hlt E.out]), rfl⟩
    · obtain rfl : k = l.length := by omega
      go_wp2
      go_ret
      have h1 := HA.out
      rw [List.take_length] at h1
      exact ⟨ret_bool (by rw [← HB.out, EE.out, h1]), rfl⟩
end Go.Proofs.YtehkdbgoeakgbaaGreatDoor
/- mailroomref03.Cut. -/
namespace Go.Proofs.YtehkdbgoeakgbaaGreatDoor
set_option linter.all false
open Go.RowKit Go.Shelf

theorem cut46_len (l : List UInt8) : (cut46 l).length ≤ l.length + 1 := by
  induction l with
  | nil => simp [cut46]
  | cons c t ih =>
    unfold cut46
    split
    · simp; omega
    · split
      · simp
      · rename_i h r e; rw [e] at ih; simp at ih ⊢; omega
theorem seg_split {l : List UInt8} {f k : Nat} (h1 : f ≤ k) (h2 : k < l.length) : l.drop f = (l.drop f).take (k - f) ++ l[k] :: l.drop (k + 1) := by
  have := (List.take_append_drop (k - f) (l.drop f)).symm
  rw [List.drop_drop, show f + (k - f) = k from by omega, List.drop_eq_getElem_cons h2] at this
  exact this
theorem cut3_dot {l : List UInt8} {f k : Nat} {ss : List (List UInt8)} (h1 : f ≤ k) (h2 : k < l.length) (hd : l[k] = 46) (hn : 46 ∉ (l.drop f).take (k - f)) (hc : cut46 l = ss ++ cut46 (l.drop f)) :
    cut46 l = (ss ++ [(l.take k).drop f]) ++ cut46 (l.drop (k + 1)) := by
  rw [List.drop_take]
  rw [seg_split h1 h2, hd, cut46_dot hn] at hc
  rw [hc]; simp
theorem cut3_end {l : List UInt8} {f : Nat} {ss : List (List UInt8)} (hn : 46 ∉ (l.drop f).take (l.length - f)) (hc : cut46 l = ss ++ cut46 (l.drop f)) :
    cut46 l = ss ++ [l.drop f] := by
  rw [List.take_of_length_le (by simp)] at hn
  rw [hc, cut46_one hn]
theorem cut3_on {l : List UInt8} {f k : Nat} (h1 : f ≤ k) (h2 : k < l.length) (hd : ¬ l[k] = 46) (hn : 46 ∉ (l.drop f).take (k - f)) : 46 ∉ (l.drop f).take (k + 1 - f) := by
  have hk : k - f < (l.drop f).length := by simp; omega
  rw [show k + 1 - f = k - f + 1 from by omega, List.take_succ_eq_append_getElem hk]
  simp only [List.mem_append, not_or]
  refine ⟨hn, ?_⟩
  simp only [List.getElem_drop, List.mem_singleton]
  intro e
  apply hd
  rw [e]; congr 1; omega
def Cut3 (l : List UInt8) (f k : Nat) (ss : List (List UInt8)) : Prop := (k ≤ l.length ∧ f ≤ k ∧ cut46 l = ss ++ cut46 (l.drop f) ∧ 46 ∉ (l.drop f).take (k - f)) ∨ (k = l.length + 1 ∧ f = l.length + 1 ∧ ss = cut46 l)
set_option maxHeartbeats 1000000 in
theorem cut3_any {w0 w : World} {L : List Piece} (O : Own w0 w L) (l : List UInt8) (hl : l.length ≤ 100000000) :
    Calls Tryz.prog 51 #[.string ⟨l.toArray⟩] w fun e w' => ∃ v, e = .returned v ∧ Own w0 w' (strs v (cut46 l) :: L) := by
  go_enter Tryz.func51, Tryz.ntmps51
  go_wp2_with fail
  have O2 := O.nilStrs
  go_loopw [3, 4, 5] (fun ov fv iv wr => ∃ (k f : Nat) (ss : List (List UInt8)), iv = .int .i64 k ∧ fv = .int .i64 f ∧ k ≤ l.length + 1 ∧ Cut3 l f k ss ∧ Own w0 wr (strs ov ss :: L)) (fun _ _ iv _ => l.length + 1 - (intOf iv).toNat)
  case atStart => exact ⟨0, 0, [], rfl, rfl, by omega, .inl ⟨by omega, by omega, rfl, by simp⟩, O2⟩
  case round =>
    clear O O2
    obtain ⟨k, f, ss, rfl, rfl, hk, hc, O⟩ := hrel
    obtain ⟨ao, capo, rfl⟩ := O.shape
    rcases hc with ⟨hk1, hf, hc, hn⟩ | ⟨rfl, rfl, rfl⟩
    · have hb1 : (k : Int) ≤ (l.length : Int) := by omega
      have hss : ss.length ≤ 1000000000 := by
        have := cut46_len l; rw [hc, List.length_append] at this; omega
      have HC := Lib.hid hc; have HN := Lib.hid hn; have HSS := Lib.hid hss
      clear hc hn hss
      have hfk : (f : Int) ≤ (k : Int) := by omega
      by_cases hlt : k < l.length
      · have hb2 : ((k : Int) == (l.length : Int)) = false := by simp; omega
        have hb3 : (k : Int) < (l.length : Int) := by omega
        by_cases hd : (l[k].toNat : Int) = 46
        · have hd' : ((l[k].toNat : Int) == 46) = true := by simp [hd]
          have HD : Hid (l[k] = 46) := by apply UInt8.toNat_inj.1; show _ = 46; omega
          clear hd
          go_wp2_with (at_builtin; refine wpList_append_strO rfl _ _ rfl _ _ _ O rfl rfl HSS.out ?_)
          intro v' w3 O
          obtain ⟨a3, cap3, rfl⟩ := O.shape
          go_wp2
          go_roundw
          case rel => exact ⟨k + 1, k + 1, _, by go_num, by go_num, by omega, .inl ⟨by omega, by omega, cut3_dot (by omega) hlt HD.out HN.out HC.out, by simp⟩, O⟩
          case measure => simp [intOf]; omega
        · have hd' : ((l[k].toNat : Int) == 46) = false := by simpa using hd
          have HD : Hid (¬ l[k] = 46) := by intro e; apply hd; rw [e]; rfl
          clear hd
          go_wp2_with fail
          go_roundw
          case rel => exact ⟨k + 1, f, ss, by go_num, rfl, by omega, .inl ⟨by omega, by omega, HC.out, cut3_on (by omega) hlt HD.out HN.out⟩, O⟩
          case measure => simp [intOf]; omega
      · obtain rfl : k = l.length := by omega
        go_wp2_with (at_builtin; refine wpList_append_strO rfl _ _ rfl _ _ _ O rfl rfl HSS.out ?_)
        intro v' w3 O
        obtain ⟨a3, cap3, rfl⟩ := O.shape
        go_wp2
        go_roundw
        case rel => exact ⟨l.length + 1, l.length + 1, _, by go_num, by go_num, by omega, .inr ⟨by omega, by omega, (cut3_end HN.out HC.out).symm⟩, O⟩
        case measure => simp [intOf]
    · go_wp2
      go_ret
      exact ⟨_, rfl, O⟩
end Go.Proofs.YtehkdbgoeakgbaaGreatDoor
/- mailroomref03: May, Labels, Parent, bare, Pattern, Match. -/
namespace Go.Proofs.YtehkdbgoeakgbaaGreatDoor
set_option linter.all false
open Go.RowKit Go.Shelf

theorem Own.shapeNe {w0 w : World} {L : List Piece} {v : Value} {ss : List (List UInt8)} (h : Own w0 w (strs v ss :: L)) (hn : 0 < ss.length) : ∃ g cap, v = .slice (some ⟨g, 0, none⟩) ss.length cap := by
  rcases row_shape' h.row with rfl | h'
  · rcases h.row.2 with ⟨_, hn'⟩ | ⟨g, cap, cur, hv, _⟩
    · omega
    · cases hv
  · exact h'
theorem may_pack (l : List UInt8) : ∃ (cs : List (List UInt8)) (m : Nat) (hm : cs.length = m + 1), cut46 l = cs ∧ m ≤ l.length ∧
    (l.length ≤ 253 → (∀ j (h : j < cs.length), labelOk cs[j] = true) → may l = !(cs[m]'(by omega)).all dig) ∧ ((cs[m]'(by omega)).all dig = true → may l = false) ∧
    (∀ j (h : j < cs.length), labelOk cs[j] = false → may l = false) ∧ (∀ j (h : j < cs.length), cs[j].length ≤ l.length) := by
  have hne := List.length_pos_iff.2 (cut46_ne l)
  have hlen := cut46_len l
  refine ⟨cut46 l, (cut46 l).length - 1, by omega, rfl, by omega, fun h1 h => may_of h1 h, ?_, ?_, ?_⟩
  · intro h
    unfold may
    rw [List.getLast_eq_getElem, h]; simp
  · intro j hj h
    unfold may
    have : (cut46 l).all labelOk = false := by rw [List.all_eq_false]; exact ⟨_, List.getElem_mem hj, by simp [h]⟩
    rw [this]; simp
  · intro j hj
    have e := (sfx_at l j hj).1
    rw [← e]
    exact Nat.le_trans (hd46_le _) (sfx_le _ _)
set_option maxHeartbeats 1000000 in
theorem may3_any (l : List UInt8) (w : World) (hl : l.length ≤ 100000000) (b : Bool) (hb : may l = b) :
    Calls Tryz.prog 30 #[.string ⟨l.toArray⟩] w fun e w' => e = .returned (.bool b) ∧ Chg [] w w' := by
  have HB := Lib.hid hb; clear hb
  obtain ⟨cs, m, hm, hcs, hml, p1, p2, p3, p4⟩ := may_pack l
  have HCS := Lib.hid hcs; have P1 := Lib.hid p1; have P2 := Lib.hid p2; have P3 := Lib.hid p3; have P4 := Lib.hid p4
  clear hcs p1 p2 p3 p4
  go_enter Tryz.func30, Tryz.ntmps30
  go_wp2_with fail
  refine (cut3_any (Own.start w) l hl).mono ?_
  rw [HCS.out]
  rintro e w1 ⟨v, rfl, O⟩
  obtain ⟨g, cap, rfl⟩ := O.shapeNe (by omega)
  by_cases h1 : 253 < l.length
  · have h1' : decide ((253 : Int) < (l.length : Int)) = true := by simp; omega
    go_wp2
    go_ret
    exact ⟨ret_bool (by rw [← HB.out, may_long h1]), O.chg⟩
  have h1' : decide ((253 : Int) < (l.length : Int)) = false := by simp; omega
  obtain ⟨_, cm, _⟩ := O.readRow m (by omega)
  have hmi : (m : Int) < ((m + 1 : Nat) : Int) := by omega
  have HPM := Lib.hid (P4.out m (by omega))
  cases hd : (cs[m]'(by omega)).all dig
  · have HD := Lib.hid hd; clear hd
    rw [hm]
    go_wp2_with fail
    refine (digits3_any _ _ (by have := HPM.out; omega) _ HD.out).mono ?_
    rintro e w2 ⟨rfl, rfl⟩
    go_wp2_with fail
    go_loop [4] (fun i => ∃ k : Nat, k ≤ m + 1 ∧ i = .int .i64 k ∧ (∀ j (h : j < cs.length), j < k → labelOk cs[j] = true)) (fun i => m + 1 - (intOf i).toNat)
    case atStart => exact ⟨0, by omega, rfl, fun j h h' => by omega⟩
    case round =>
      clear cm
      obtain ⟨k, hk, rfl, ha⟩ := hrel
      have HA := Lib.hid ha; clear ha
      by_cases hlt : k < m + 1
      · have hb1 : (k : Int) < (m : Int) + 1 := by omega
        have hkl : k < cs.length := by omega
        obtain ⟨_, cm, _⟩ := O.readRow k hkl
        have HPK := Lib.hid (P4.out k hkl)
        cases hd : labelOk cs[k]
        · have HL := Lib.hid hd; clear hd
          go_wp2_with fail
          refine (label3_any _ _ (by have := HPK.out; omega) _ HL.out).mono ?_
          rintro e w2 ⟨rfl, rfl⟩
          go_wp2
          go_ret
          exact ⟨ret_bool (by rw [← HB.out]; exact (P3.out k hkl HL.out).symm), O.chg⟩
        · have HL := Lib.hid hd; clear hd
          go_wp2_with fail
          refine (label3_any _ _ (by have := HPK.out; omega) _ HL.out).mono ?_
          rintro e w2 ⟨rfl, rfl⟩
          go_wp2
          go_round
          case rel =>
            refine ⟨k + 1, by omega, by go_num, fun j h h' => ?_⟩
            by_cases e : j = k
            · subst e; exact HL.out
            · exact HA.out j h (by omega)
          case measure => simp [intOf]; omega
      · have hb1 : ¬ (k : Int) < (m : Int) + 1 := by omega
        go_wp2
        go_ret
        refine ⟨ret_bool ?_, O.chg⟩
        rw [← HB.out, P1.out (by omega) (fun j h => HA.out j h (by omega)), HD.out]; rfl
  · have HD := Lib.hid hd; clear hd
    rw [hm]
    go_wp2_with fail
    refine (digits3_any _ _ (by have := HPM.out; omega) _ HD.out).mono ?_
    rintro e w2 ⟨rfl, rfl⟩
    go_wp2
    go_ret
    exact ⟨ret_bool (by rw [← HB.out]; exact (P2.out HD.out).symm), O.chg⟩
end Go.Proofs.YtehkdbgoeakgbaaGreatDoor
/- mailroomref03.Fold. -/
namespace Go.Proofs.YtehkdbgoeakgbaaGreatDoor
set_option linter.all false
open Go.RowKit Go.Shelf

theorem conv_one (u : World) (c : UInt8) : (convert 78 9 (.slice (some ⟨u.heap.size, 0, none⟩) 1 1)).run Tryz.prog (u.alloc (.cells #[.int .u8 (c.toNat : Int)] 5)) = .ok (.string ⟨[c].toArray⟩) (u.alloc (.cells #[.int .u8 (c.toNat : Int)] 5)) := by
  have h := run_convert_bytes_back (P := Tryz.prog) (u.alloc (.cells #[.int .u8 (c.toNat : Int)] 5)) 78 9 5 ⟨u.heap.size, 0, none⟩ 1 [c] Tryz.underlying78 Tryz.underlying5 Tryz.underlying9 (fun j hj => by
    have hj' : j = 0 := by simp at hj; exact hj
    subst hj'
    rw [show (⟨u.heap.size, 0, none⟩ : Addr).add 0 = ⟨u.heap.size, 0, none⟩ from by simp [Addr.add], cell_at (heap_alloc_new u _)]
    rfl)
  exact h
theorem trim_cases (s : List UInt8) : (∃ h : 0 < s.length, (s[s.length - 1]'(by omega)).toNat = 46 ∧ s.take (s.length - 1) = Lib.trimSuffix s [46]) ∨ (0 < s.length ∧ (∃ h : s.length - 1 < s.length, ¬ s[s.length - 1].toNat = 46) ∧ Lib.trimSuffix s [46] = s) ∨ (s.length = 0 ∧ Lib.trimSuffix s [46] = s) := by
  by_cases h : ∃ t, s = t ++ [46]
  · left
    obtain ⟨t, rfl⟩ := h
    refine ⟨by simp, ?_, ?_⟩
    · simp
    · unfold Lib.trimSuffix Lib.hasSuffix
      rw [if_pos (by rw [List.isSuffixOf_iff_suffix]; exact List.suffix_append _ _)]
      simp
  · have hn : Lib.trimSuffix s [46] = s := by
      unfold Lib.trimSuffix Lib.hasSuffix
      rw [if_neg (by rw [List.isSuffixOf_iff_suffix]; rintro ⟨t, rfl⟩; exact h ⟨t, rfl⟩)]
    right
    by_cases h0 : s.length = 0
    · exact .inr ⟨h0, hn⟩
    · refine .inl ⟨by omega, ⟨by omega, fun e => h ?_⟩, hn⟩
      have hne : s ≠ [] := by rintro rfl; simp at h0
      refine ⟨s.dropLast, ?_⟩
      have h1 := List.dropLast_concat_getLast hne
      rw [List.getLast_eq_getElem, show s[s.length - 1] = 46 from UInt8.toNat_inj.1 e] at h1
      exact h1.symm
theorem map_take_succ {t : List UInt8} {k : Nat} (h : k < t.length) : (t.take k).map low ++ [low t[k]] = (t.take (k + 1)).map low := by
  rw [List.take_succ_eq_append_getElem h, List.map_append]; rfl
theorem low_great3 {c : UInt8} (h1 : 65 ≤ (c.toNat : Int)) (h2 : (c.toNat : Int) ≤ 90) : ((low c).toNat : Int) = (c.toNat : Int) + 32 := by
  rw [low_toNat, if_pos (by omega)]; omega
theorem ret_v {a b : Value} (h : a = b) : Ending.returned a = .returned b := by rw [h]

set_option maxHeartbeats 1000000 in
theorem fold3_any (s : List UInt8) (w : World) (hs : s.length ≤ 1000000) :
    Calls Tryz.prog 75 #[.string ⟨s.toArray⟩] w fun e w' => e = .returned (foldV s) ∧ Chg [] w w' := by
  have HV : Hid (foldV s = if may ((Lib.trimSuffix s [46]).map low) then .tuple #[.string ⟨((Lib.trimSuffix s [46]).map low).toArray⟩, .int .i64 0] else .tuple #[.string ⟨#[]⟩, .int .i64 4]) := rfl
  have htl := trimSuffix_le s [46]
  have O := Own.start w
  have htc := trim_cases s
  obtain ⟨t, ht⟩ : ∃ t, t = Lib.trimSuffix s [46] := ⟨_, rfl⟩
  rw [← ht] at HV htl htc
  clear ht
  by_cases hlong : 253 < t.length
  · have hl' : (253 : Int) < (t.length : Int) := by omega
    have HN : Hid (foldV s = .tuple #[.string ⟨#[]⟩, .int .i64 4]) := by
      unfold Hid; rw [HV.out, may_long (by simpa using hlong)]; rfl
    rcases htc with ⟨h0, h1, h2⟩ | ⟨h0, ⟨h1, h1'⟩, h2⟩ | ⟨h0, h2⟩
    · have q0 : decide ((0 : Int) < (s.length : Int)) = true := by simp; omega
      have q4 : s.length - 1 < s.length := by omega
      have q1 : (s.length : Int) - 1 < (s.length : Int) := by omega
      have q2 : 0 ≤ (s.length : Int) - 1 := by omega
      have q3 : ((s.length : Int) - 1).toNat = s.length - 1 := by omega
      have h4 : (((s[s.length - 1]'q4).toNat : Int) == 46) = true := by simp [h1]
      have h5 : (s.length : Int) - 1 ≤ (s.length : Int) := by omega
      clear h1
      go_enter Tryz.func75, Tryz.ntmps75
      go_wp2
      go_ret2
      exact ⟨by rw [HN.out]; rfl, Chg.refl _ _⟩
    · have q0 : decide ((0 : Int) < (s.length : Int)) = true := by simp; omega
      have q1 : (s.length : Int) - 1 < (s.length : Int) := by omega
      have q2 : 0 ≤ (s.length : Int) - 1 := by omega
      have q3 : ((s.length : Int) - 1).toNat = s.length - 1 := by omega
      have h4 : (((s[s.length - 1]'h1).toNat : Int) == 46) = false := by simp; omega
      subst h2
      clear h1'
      go_enter Tryz.func75, Tryz.ntmps75
      go_wp2
      go_ret2
      exact ⟨by rw [HN.out]; rfl, Chg.refl _ _⟩
    · omega
  have hl' : ¬ (253 : Int) < (t.length : Int) := by omega
  rcases htc with ⟨h0, h1, h2⟩ | ⟨h0, ⟨h1, h1'⟩, h2⟩ | ⟨h0, h2⟩
  focus
    have q0 : decide ((0 : Int) < (s.length : Int)) = true := by simp; omega
    have q4 : s.length - 1 < s.length := by omega
    have q1 : (s.length : Int) - 1 < (s.length : Int) := by omega
    have q2 : 0 ≤ (s.length : Int) - 1 := by omega
    have q3 : ((s.length : Int) - 1).toNat = s.length - 1 := by omega
    have h4 : (((s[s.length - 1]'q4).toNat : Int) == 46) = true := by simp [h1]
    have h5 : (s.length : Int) - 1 ≤ (s.length : Int) := by omega
    clear h1
    go_enter Tryz.func75, Tryz.ntmps75
    go_wp2
  rotate_left
  focus
    have q0 : decide ((0 : Int) < (s.length : Int)) = true := by simp; omega
    have q1 : (s.length : Int) - 1 < (s.length : Int) := by omega
    have q2 : 0 ≤ (s.length : Int) - 1 := by omega
    have q3 : ((s.length : Int) - 1).toNat = s.length - 1 := by omega
    have h4 : (((s[s.length - 1]'h1).toNat : Int) == 46) = false := by simp; omega
    subst h2
    clear h1'
    go_enter Tryz.func75, Tryz.ntmps75
    go_wp2
  rotate_left
  focus
    obtain rfl := List.eq_nil_of_length_eq_zero h0
    subst h2
    go_enter Tryz.func75, Tryz.ntmps75
    go_wp2
  focus
    go_loopw [4, 5] (fun ov iv wr => ov = .string ⟨#[]⟩ ∧ iv = .int .i64 0 ∧ Own w wr []) (fun _ _ _ => 0)
    case atStart => exact ⟨rfl, rfl, O⟩
    case round =>
      clear O
      obtain ⟨rfl, rfl, O⟩ := hrel
      go_wp2_with fail
      refine (may3_any [] _ (by simp) false (by decide)).mono ?_
      rintro e w2 ⟨rfl, ch⟩
      go_wp2
      go_ret2
      exact ⟨by rw [HV.out]; rfl, (O.pure ch).chg⟩
  all_goals
    go_loopw [4, 5] (fun ov iv wr => ∃ (k : Nat), k ≤ t.length ∧ iv = .int .i64 k ∧ ov = .string ⟨((t.take k).map low).toArray⟩ ∧ Own w wr []) (fun _ iv _ => t.length - (intOf iv).toNat)
    case atStart => exact ⟨0, by omega, rfl, rfl, O⟩
    case round =>
      clear O
      obtain ⟨k, hk, rfl, rfl, O⟩ := hrel
      have hol : ((t.take k).map low).length ≤ 253 := by simp; omega
      by_cases hlt : k < t.length
      · have hb1 : (k : Int) < (t.length : Int) := by omega
        have E := Lib.hid (map_take_succ hlt)
        have hcv := conv_one wr (low t[k])
        have h256 : (t[k].toNat : Int) < 256 := by have := t[k].toNat_lt; omega
        generalize (t.take k).map low = o at *
        by_cases c1 : 65 ≤ (t[k].toNat : Int)
        · by_cases c2 : (t[k].toNat : Int) ≤ 90
          · rw [low_great3 c1 c2] at hcv
            go_wp2
            go_roundw
            case rel => exact ⟨k + 1, by omega, by go_num, by rw [E.out], O.alloc _⟩
            case measure => simp [intOf]; omega
          · rw [low_small (.inr (by omega))] at hcv E
            go_wp2
            go_roundw
            case rel => exact ⟨k + 1, by omega, by go_num, by rw [E.out], O.alloc _⟩
            case measure => simp [intOf]; omega
        · rw [low_small (.inl (by omega))] at hcv E
          go_wp2
          go_roundw
          case rel => exact ⟨k + 1, by omega, by go_num, by rw [E.out], O.alloc _⟩
          case measure => simp [intOf]; omega
      · obtain rfl : k = t.length := by omega
        rw [List.take_length] at hol ⊢
        generalize t.map low = f at *
        cases hm : may f
        · have HM := Lib.hid hm
          rw [hm] at HV
          clear hm
          go_wp2_with fail
          refine (may3_any f _ (by omega) _ HM.out).mono ?_
          rintro e w2 ⟨rfl, ch⟩
          go_wp2
          go_ret2
          exact ⟨by rw [HV.out]; rfl, (O.pure ch).chg⟩
        · have HM := Lib.hid hm
          rw [hm] at HV
          clear hm
          go_wp2_with fail
          refine (may3_any f _ (by omega) _ HM.out).mono ?_
          rintro e w2 ⟨rfl, ch⟩
          go_wp2
          go_ret2
          exact ⟨by rw [HV.out]; rfl, (O.pure ch).chg⟩
end Go.Proofs.YtehkdbgoeakgbaaGreatDoor
/- mailroomref04: sign, atoms, quoted. -/
namespace Go.Proofs.YtehkdbgoeakgbaaGreatDoor
set_option linter.all false
open Go.RowKit

def signB (c : UInt8) : Bool := letterB c || signsL.contains c
theorem letterB_is (c : UInt8) : letterB c = true ∨ (letterB c = false ∧ ((c.toNat : Int) < 97 ∨ 122 < (c.toNat : Int)) ∧ ((c.toNat : Int) < 65 ∨ 90 < (c.toNat : Int)) ∧ ((c.toNat : Int) < 48 ∨ 57 < (c.toNat : Int))) := by
  by_cases h : letterB c = true
  · exact .inl h
  · right
    have h' : letterB c = false := by simpa using h
    refine ⟨h', ?_⟩
    unfold letterB at h'
    simp only [Bool.or_eq_false_iff, decide_eq_false_iff_not] at h'
    omega
theorem letterB_yes (c : UInt8) (h : letterB c = true) : (97 ≤ (c.toNat : Int) ∧ (c.toNat : Int) ≤ 122) ∨ ((c.toNat : Int) < 97 ∧ 65 ≤ (c.toNat : Int) ∧ (c.toNat : Int) ≤ 90) ∨ ((c.toNat : Int) < 65 ∧ 48 ≤ (c.toNat : Int) ∧ (c.toNat : Int) ≤ 57) := by
  unfold letterB at h
  simp only [Bool.or_eq_true, decide_eq_true_eq] at h
  omega
set_option maxHeartbeats 1000000 in
theorem sign_any (c : UInt8) (w : World) : Calls Tryz.prog 83 #[.int .u8 (c.toNat : Int)] w fun e w' => e = .returned (.bool (signB c)) ∧ w = w' := by
  have SB : Hid (signB c = (letterB c || signsL.contains c)) := rfl
  have NS : Hid (signsL.length = 19) := by unfold Hid; rfl
  generalize signB c = r at SB ⊢
  by_cases hl : letterB c = true
  · rw [hl] at SB
    have e : r = true := by rw [SB.out]; rfl
    subst e
    rcases letterB_yes c hl with ⟨h1, h2⟩ | ⟨h0, h1, h2⟩ | ⟨h0, h1, h2⟩
    · clear hl
      go_enter Tryz.func83, Tryz.ntmps83
      go_wp2
      go_ret
      exact ⟨rfl, rfl⟩
    · clear hl
      go_enter Tryz.func83, Tryz.ntmps83
      go_wp2
      go_ret
      exact ⟨rfl, rfl⟩
    · clear hl
      go_enter Tryz.func83, Tryz.ntmps83
      go_wp2
      go_ret
      exact ⟨rfl, rfl⟩
  · have hl' : letterB c = false := by simpa using hl
    rw [hl'] at SB
    rcases letterB_is c with h | ⟨-, h1, h2, h3⟩
    · exact absurd h hl
    clear hl hl'
    have R : Hid (r = signsL.contains c) := by unfold Hid; rw [SB.out]; rfl
    clear SB
    go_enter Tryz.func83, Tryz.ntmps83
    have H4 : (c.toNat : Int) < 48 ∨ (57 < (c.toNat : Int) ∧ (c.toNat : Int) < 65) ∨ (90 < (c.toNat : Int) ∧ (c.toNat : Int) < 97) ∨ 122 < (c.toNat : Int) := by omega
    clear h1 h2 h3
    rcases H4 with h1 | ⟨h1, h2⟩ | ⟨h1, h2⟩ | h1
    · have d1 : (c.toNat : Int) < 97 := by omega
      have d2 : (c.toNat : Int) < 65 := by omega
      go_wp2_with fail
      go_loopw [4] (fun iv wr => ∃ k : Nat, k ≤ 19 ∧ iv = .int .i64 k ∧ (∀ j (h : j < signsL.length), j < k → signsL[j] ≠ c) ∧ w = wr) (fun iv _ => 19 - (intOf iv).toNat)
      case atStart => exact ⟨0, by omega, rfl, fun j h h' => by omega, rfl⟩
      case round =>
        obtain ⟨k, hk, rfl, hn, rfl⟩ := hrel
        have HN := Lib.hid hn
        clear hn
        by_cases hlt : k < 19
        · have hb1 : (k : Int) < 19 := by omega
          have hkl : k < signsL.length := by rw [NS.out]; exact hlt
          have GE : ∀ h, (⟨#[33, 35, 36, 37, 38, 39, 42, 43, 45, 47, 61, 63, 94, 95, 123, 124, 125, 126, 96]⟩ : ByteArray)[k]'h = signsL[k] := fun h => rfl
          by_cases he : signsL[k] = c
          · have be : ((signsL[k].toNat : Int) == (c.toNat : Int)) = true := by rw [he]; simp
            have fin : r = true := by rw [R.out]; simpa using (List.mem_iff_getElem.2 ⟨k, hkl, he⟩)
            clear he
            subst fin
            go_wp2
            go_ret
            exact ⟨rfl, rfl⟩
          · have be : ((signsL[k].toNat : Int) == (c.toNat : Int)) = false := by
              cases q : ((signsL[k].toNat : Int) == (c.toNat : Int)) with
              | false => rfl
              | true => exfalso; apply he; apply UInt8.toNat_inj.1; have := eq_of_beq q; omega
            have NX : Hid (∀ j (h : j < signsL.length), j < k + 1 → signsL[j] ≠ c) := by
              intro j h hj
              by_cases q : j = k
              · subst q; exact he
              · exact HN.out j h (by omega)
            clear he
            go_wp2
            go_roundw
            case rel => exact ⟨k + 1, by omega, by go_num, NX.out, by simp⟩
            case measure => simp [intOf]; omega
        · obtain rfl : k = 19 := by omega
          have fin : r = false := by
            rw [R.out]
            cases q : signsL.contains c with
            | false => rfl
            | true =>
              obtain ⟨j, hj, e⟩ := List.mem_iff_getElem.1 (by simpa using q : c ∈ signsL)
              exact absurd e (HN.out j hj (by rw [← NS.out]; exact hj))
          subst fin
          go_wp2
          go_ret
          exact ⟨rfl, rfl⟩
    · have d1 : (c.toNat : Int) < 97 := by omega
      have d2 : 48 ≤ (c.toNat : Int) := by omega
      go_wp2_with fail
      go_loopw [4] (fun iv wr => ∃ k : Nat, k ≤ 19 ∧ iv = .int .i64 k ∧ (∀ j (h : j < signsL.length), j < k → signsL[j] ≠ c) ∧ w = wr) (fun iv _ => 19 - (intOf iv).toNat)
      case atStart => exact ⟨0, by omega, rfl, fun j h h' => by omega, rfl⟩
      case round =>
        obtain ⟨k, hk, rfl, hn, rfl⟩ := hrel
        have HN := Lib.hid hn
        clear hn
        by_cases hlt : k < 19
        · have hb1 : (k : Int) < 19 := by omega
          have hkl : k < signsL.length := by rw [NS.out]; exact hlt
          have GE : ∀ h, (⟨#[33, 35, 36, 37, 38, 39, 42, 43, 45, 47, 61, 63, 94, 95, 123, 124, 125, 126, 96]⟩ : ByteArray)[k]'h = signsL[k] := fun h => rfl
          by_cases he : signsL[k] = c
          · have be : ((signsL[k].toNat : Int) == (c.toNat : Int)) = true := by rw [he]; simp
            have fin : r = true := by rw [R.out]; simpa using (List.mem_iff_getElem.2 ⟨k, hkl, he⟩)
            clear he
            subst fin
            go_wp2
            go_ret
            exact ⟨rfl, rfl⟩
          · have be : ((signsL[k].toNat : Int) == (c.toNat : Int)) = false := by
              cases q : ((signsL[k].toNat : Int) == (c.toNat : Int)) with
              | false => rfl
              | true => exfalso; apply he; apply UInt8.toNat_inj.1; have := eq_of_beq q; omega
            have NX : Hid (∀ j (h : j < signsL.length), j < k + 1 → signsL[j] ≠ c) := by
              intro j h hj
              by_cases q : j = k
              · subst q; exact he
              · exact HN.out j h (by omega)
            clear he
            go_wp2
            go_roundw
            case rel => exact ⟨k + 1, by omega, by go_num, NX.out, by simp⟩
            case measure => simp [intOf]; omega
        · obtain rfl : k = 19 := by omega
          have fin : r = false := by
            rw [R.out]
            cases q : signsL.contains c with
            | false => rfl
            | true =>
              obtain ⟨j, hj, e⟩ := List.mem_iff_getElem.1 (by simpa using q : c ∈ signsL)
              exact absurd e (HN.out j hj (by rw [← NS.out]; exact hj))
          subst fin
          go_wp2
          go_ret
          exact ⟨rfl, rfl⟩
    · have d2 : 65 ≤ (c.toNat : Int) := by omega
      have d3 : 48 ≤ (c.toNat : Int) := by omega
      have d4 : 57 < (c.toNat : Int) := by omega
      go_wp2_with fail
      go_loopw [4] (fun iv wr => ∃ k : Nat, k ≤ 19 ∧ iv = .int .i64 k ∧ (∀ j (h : j < signsL.length), j < k → signsL[j] ≠ c) ∧ w = wr) (fun iv _ => 19 - (intOf iv).toNat)
      case atStart => exact ⟨0, by omega, rfl, fun j h h' => by omega, rfl⟩
      case round =>
        obtain ⟨k, hk, rfl, hn, rfl⟩ := hrel
        have HN := Lib.hid hn
        clear hn
        by_cases hlt : k < 19
        · have hb1 : (k : Int) < 19 := by omega
          have hkl : k < signsL.length := by rw [NS.out]; exact hlt
          have GE : ∀ h, (⟨#[33, 35, 36, 37, 38, 39, 42, 43, 45, 47, 61, 63, 94, 95, 123, 124, 125, 126, 96]⟩ : ByteArray)[k]'h = signsL[k] := fun h => rfl
          by_cases he : signsL[k] = c
          · have be : ((signsL[k].toNat : Int) == (c.toNat : Int)) = true := by rw [he]; simp
            have fin : r = true := by rw [R.out]; simpa using (List.mem_iff_getElem.2 ⟨k, hkl, he⟩)
            clear he
            subst fin
            go_wp2
            go_ret
            exact ⟨rfl, rfl⟩
          · have be : ((signsL[k].toNat : Int) == (c.toNat : Int)) = false := by
              cases q : ((signsL[k].toNat : Int) == (c.toNat : Int)) with
              | false => rfl
              | true => exfalso; apply he; apply UInt8.toNat_inj.1; have := eq_of_beq q; omega
            have NX : Hid (∀ j (h : j < signsL.length), j < k + 1 → signsL[j] ≠ c) := by
              intro j h hj
              by_cases q : j = k
              · subst q; exact he
              · exact HN.out j h (by omega)
            clear he
            go_wp2
            go_roundw
            case rel => exact ⟨k + 1, by omega, by go_num, NX.out, by simp⟩
            case measure => simp [intOf]; omega
        · obtain rfl : k = 19 := by omega
          have fin : r = false := by
            rw [R.out]
            cases q : signsL.contains c with
            | false => rfl
            | true =>
              obtain ⟨j, hj, e⟩ := List.mem_iff_getElem.1 (by simpa using q : c ∈ signsL)
              exact absurd e (HN.out j hj (by rw [← NS.out]; exact hj))
          subst fin
          go_wp2
          go_ret
          exact ⟨rfl, rfl⟩
    · have d1 : 97 ≤ (c.toNat : Int) := by omega
      have d2 : 65 ≤ (c.toNat : Int) := by omega
      have d3 : 48 ≤ (c.toNat : Int) := by omega
      have d4 : 57 < (c.toNat : Int) := by omega
      have d5 : 90 < (c.toNat : Int) := by omega
      go_wp2_with fail
      go_loopw [4] (fun iv wr => ∃ k : Nat, k ≤ 19 ∧ iv = .int .i64 k ∧ (∀ j (h : j < signsL.length), j < k → signsL[j] ≠ c) ∧ w = wr) (fun iv _ => 19 - (intOf iv).toNat)
      case atStart => exact ⟨0, by omega, rfl, fun j h h' => by omega, rfl⟩
      case round =>
        obtain ⟨k, hk, rfl, hn, rfl⟩ := hrel
        have HN := Lib.hid hn
        clear hn
        by_cases hlt : k < 19
        · have hb1 : (k : Int) < 19 := by omega
          have hkl : k < signsL.length := by rw [NS.out]; exact hlt
          have GE : ∀ h, (⟨#[33, 35, 36, 37, 38, 39, 42, 43, 45, 47, 61, 63, 94, 95, 123, 124, 125, 126, 96]⟩ : ByteArray)[k]'h = signsL[k] := fun h => rfl
          by_cases he : signsL[k] = c
          · have be : ((signsL[k].toNat : Int) == (c.toNat : Int)) = true := by rw [he]; simp
            have fin : r = true := by rw [R.out]; simpa using (List.mem_iff_getElem.2 ⟨k, hkl, he⟩)
            clear he
            subst fin
            go_wp2
            go_ret
            exact ⟨rfl, rfl⟩
          · have be : ((signsL[k].toNat : Int) == (c.toNat : Int)) = false := by
              cases q : ((signsL[k].toNat : Int) == (c.toNat : Int)) with
              | false => rfl
              | true => exfalso; apply he; apply UInt8.toNat_inj.1; have := eq_of_beq q; omega
            have NX : Hid (∀ j (h : j < signsL.length), j < k + 1 → signsL[j] ≠ c) := by
              intro j h hj
              by_cases q : j = k
              · subst q; exact he
              · exact HN.out j h (by omega)
            clear he
            go_wp2
            go_roundw
            case rel => exact ⟨k + 1, by omega, by go_num, NX.out, by simp⟩
            case measure => simp [intOf]; omega
        · obtain rfl : k = 19 := by omega
          have fin : r = false := by
            rw [R.out]
            cases q : signsL.contains c with
            | false => rfl
            | true =>
              obtain ⟨j, hj, e⟩ := List.mem_iff_getElem.1 (by simpa using q : c ∈ signsL)
              exact absurd e (HN.out j hj (by rw [← NS.out]; exact hj))
          subst fin
          go_wp2
          go_ret
          exact ⟨rfl, rfl⟩

theorem b_is (c d : UInt8) (n : Int) (hn : (d.toNat : Int) = n) : ((c.toNat : Int) == n) = (c == d) := by
  subst hn
  by_cases h : c = d
  · subst h; simp
  · have e : (c == d) = false := by simpa using h
    rw [e]
    cases q : ((c.toNat : Int) == (d.toNat : Int)) with
    | false => rfl
    | true => exfalso; apply h; apply UInt8.toNat_inj.1; have := eq_of_beq q; omega
theorem eachA_dot {s : List UInt8} {b : Bool} (h : ∀ k (h : k < s.length), k + 1 = s.length → s[k] = 46) (hn : s ≠ []) (he : eachRun stepA true s = (true, b)) : b = true := by
  have hl : s.length - 1 < s.length := by have := List.length_pos_iff.2 hn; omega
  have e : s = s.take (s.length - 1) ++ [s[s.length - 1]] := by
    rw [← List.take_succ_eq_append_getElem hl, List.take_of_length_le (by omega)]
  rw [e, eachRun_app] at he
  cases q : (eachRun stepA true (s.take (s.length - 1))).1
  · rw [q] at he; simp at he
  · rw [q] at he
    rw [h _ hl (by omega)] at he
    simp only [cond_true, eachRun] at he
    cases q2 : (eachRun stepA true (s.take (s.length - 1))).2 <;> rw [q2] at he <;> simp [stepA] at he
    exact he
theorem each_at {f : Bool → UInt8 → Bool × Bool} {st : Bool} {s : List UInt8} {k : Nat} (h : k < s.length) {b : Bool} (ha : eachRun f st (s.take k) = (true, b)) : eachRun f st (s.take (k + 1)) = f b s[k] := by
  rw [List.take_succ_eq_append_getElem h, eachRun_app, ha]
  simp only [cond_true, eachRun]
  cases e : (f b s[k]).1
  · simp; exact Prod.ext e.symm rfl
  · simp; exact Prod.ext e.symm rfl
theorem each_off {f : Bool → UInt8 → Bool × Bool} {st : Bool} {s : List UInt8} {k : Nat} {b : Bool} (ha : eachRun f st (s.take k) = (false, b)) : eachRun f st s = (false, b) := by
  conv => lhs; rw [← List.take_append_drop k s]
  rw [eachRun_app, ha]; rfl
set_option maxHeartbeats 2000000 in
theorem ratoms_any (s : List UInt8) (hs : s.length ≤ 1000000) (w : World) : Calls Tryz.prog 73 #[.string ⟨s.toArray⟩] w fun e w' => e = .returned (.bool (atomsB s)) ∧ w = w' := by
  have AB : Hid (atomsB s = ((eachRun stepA true s).1 && !(eachRun stepA true s).2)) := rfl
  generalize atomsB s = r at AB ⊢
  by_cases h0 : s.length = 0
  · obtain rfl : s = [] := List.eq_nil_of_length_eq_zero h0
    have fin : r = false := by rw [AB.out]; rfl
    subst fin
    clear AB
    go_enter Tryz.func73, Tryz.ntmps73
    go_wp2
    go_ret
    exact ⟨rfl, rfl⟩
  have p0 : 0 < s.length := by omega
  have hne : s.isEmpty = false := by cases s with
    | nil => simp at p0
    | cons _ _ => rfl
  have c0 := b_is (s[0]'p0) 46 46 rfl
  rcases Bool.eq_false_or_eq_true (s[0]'p0 == 46) with q0 | q0
  · have fin : r = false := by
      rw [AB.out]
      have h1 : eachRun stepA true (s.take 1) = stepA true s[0] := each_at p0 rfl
      have e0 : s[0] = 46 := by simpa using q0
      rw [e0] at h1
      rw [each_off (show eachRun stepA true (s.take 1) = (false, true) from h1)]; rfl
    subst fin
    rw [q0] at c0
    clear AB q0
    go_enter Tryz.func73, Tryz.ntmps73
    go_wp2
    go_ret
    exact ⟨rfl, rfl⟩
  rw [q0] at c0
  have pl : s.length - 1 < s.length := by omega
  have cl := b_is (s[s.length - 1]'pl) 46 46 rfl
  have i1 : (s.length : Int) - 1 < (s.length : Int) := by omega
  have i2 : 0 ≤ (s.length : Int) - 1 := by omega
  have i4 : 1 ≤ (s.length : Int) := by omega
  have i3 : ((s.length : Int) - 1).toNat = s.length - 1 := by omega
  rcases Bool.eq_false_or_eq_true (s[s.length - 1]'pl == 46) with ql | ql
  · have fin : r = false := by
      rw [AB.out]
      obtain ⟨a, b, hab⟩ : ∃ a b, eachRun stepA true s = (a, b) := ⟨_, _, rfl⟩
      rw [hab]
      cases a
      · rfl
      · rw [eachA_dot (fun k h hk => by have : k = s.length - 1 := by omega
                                        subst this; simpa using ql) (by rintro rfl; simp at p0) hab]; rfl
    subst fin
    rw [ql] at cl
    clear AB ql q0
    go_enter Tryz.func73, Tryz.ntmps73
    go_wp2
    go_ret
    exact ⟨rfl, rfl⟩
  rw [ql] at cl
  have QL := Lib.hid ql
  have Q0 := Lib.hid q0
  clear ql q0
  go_enter Tryz.func73, Tryz.ntmps73
  go_wp2_with fail
  clear cl c0
  go_loopw [3] (fun iv wr => ∃ (k : Nat) (b : Bool), k ≤ s.length ∧ iv = .int .i64 k ∧ eachRun stepA true (s.take k) = (true, b) ∧ (∀ j (h : j < s.length), j + 1 = k → b = (s[j] == 46)) ∧ w = wr) (fun iv _ => s.length - (intOf iv).toNat)
  case atStart => exact ⟨0, true, by omega, rfl, rfl, fun j h h' => by omega, rfl⟩
  case round =>
    obtain ⟨k, b, hk, rfl, ha, hb, rfl⟩ := hrel
    have HA := Lib.hid ha
    have HB := Lib.hid hb
    clear ha hb
    by_cases hlt : k < s.length
    · have hb1 : (k : Int) < (s.length : Int) := by omega
      have NX := Lib.hid (each_at hlt HA.out)
      have ck := b_is s[k] 46 46 rfl
      rcases Bool.eq_false_or_eq_true (s[k] == 46) with qk | qk
      · rw [qk] at ck
        have ck2 : ((s[k].toNat : Int) != 46) = false := by rw [bne, ck]; rfl
        have hk0 : 0 < k := by
          rcases Nat.eq_zero_or_pos k with h | h
          · subst h; have := Q0.out; rw [this] at qk; cases qk
          · exact h
        have pk : k - 1 < s.length := by omega
        have cp := b_is (s[k - 1]'pk) 46 46 rfl
        have j1 : (k : Int) - 1 < (s.length : Int) := by omega
        have j2 : 0 ≤ (k : Int) - 1 := by omega
        have j4 : 1 ≤ (k : Int) := by omega
        have j5 : (k : Int) < (s.length : Int) + 1 := by omega
        have j3 : ((k : Int) - 1).toNat = k - 1 := by omega
        have s1 : IntKind.i64.wrap ((k : Int) - 1) = (k : Int) - 1 := IntWalk.i64_in _ (by omega)
        have be := HB.out (k - 1) pk (by omega)
        have st : stepA b s[k] = (!b, true) := by unfold stepA; rw [qk]; simp
        have ST := Lib.hid st
        have QK := Lib.hid qk
        rw [← be] at cp
        clear st qk be
        cases b
        · go_wp2
          go_roundw
          case rel => exact ⟨k + 1, true, by omega, by go_num, NX.out.trans ST.out, fun j h hj => by
            have : j = k := by omega
            subst this; exact QK.out.symm, by simp⟩
          case measure => simp [intOf]; omega
        · have fin : r = false := by rw [AB.out, each_off (NX.out.trans ST.out)]; rfl
          subst fin
          go_wp2
          go_ret
          exact ⟨rfl, rfl⟩
      · rw [qk] at ck
        have ck2 : ((s[k].toNat : Int) != 46) = true := by rw [bne, ck]; rfl
        have st : stepA b s[k] = (signB s[k], false) := by unfold stepA signB; rw [qk]; simp
        have ST := Lib.hid st
        have QK := Lib.hid qk
        clear st qk
        go_wp2_with fail
        refine (sign_any s[k] _).mono ?_
        rintro e w1 ⟨rfl, rfl⟩
        rw [show stepA b s[k] = _ from ST.out] at NX
        clear ST
        obtain ⟨x, hx⟩ : ∃ x, x = signB s[k] := ⟨_, rfl⟩
        rw [← hx] at NX ⊢
        clear hx
        cases x
        · have fin : r = false := by rw [AB.out, each_off NX.out]; rfl
          subst fin
          go_wp2
          go_ret
          exact ⟨rfl, rfl⟩
        · go_wp2
          go_roundw
          case rel => exact ⟨k + 1, false, by omega, by go_num, NX.out, fun j h hj => by
            have : j = k := by omega
            subst this; exact QK.out.symm, by simp⟩
          case measure => simp [intOf]; omega
    · obtain rfl : k = s.length := by omega
      have fin : r = true := by
        rw [AB.out]
        have h1 := HA.out
        rw [List.take_length] at h1
        rw [h1, HB.out (s.length - 1) pl (by omega), QL.out]; rfl
      subst fin
      go_wp2
      go_ret
      exact ⟨rfl, rfl⟩
end Go.Proofs.YtehkdbgoeakgbaaGreatDoor
/- mailroomref04: quoted, Parse. -/
namespace Go.Proofs.YtehkdbgoeakgbaaGreatDoor
set_option linter.all false
open Go.RowKit

theorem quoted_pre {s : List UInt8} (h : (cutPre 34 s).2 = false) : quotedB s = false := by unfold quotedB; rw [h]; rfl
theorem quoted_suf {s : List UInt8} (h : (cutSuf 34 (cutPre 34 s).1).2 = false) : quotedB s = false := by unfold quotedB; rw [h]; simp
theorem quoted_in {s t : List UInt8} (h1 : (cutPre 34 s).2 = true) (h2 : (cutSuf 34 (cutPre 34 s).1).2 = true) (h3 : (cutSuf 34 (cutPre 34 s).1).1 = t) : quotedB s = ((eachRun stepQ false t).1 && !(eachRun stepQ false t).2) := by
  unfold quotedB; rw [h1, h2, h3]; simp
/-- a text of two bytes and more, its ends -/
theorem two_ends {s : List UInt8} (h : 2 ≤ s.length) (p q : UInt8) : (cutPre p s).2 = (s[0]'(by omega) == p) ∧ ((s[0]'(by omega)) = p → (cutSuf q (cutPre p s).1).2 = (s[s.length - 1]'(by omega) == q) ∧ (s[s.length - 1]'(by omega) = q → (cutSuf q (cutPre p s).1).1 = (s.drop 1).take (s.length - 1 - 1))) := by
  match s, h with
  | a :: b :: r, h =>
    refine ⟨?_, fun ha => ?_⟩
    · simp only [cutPre, List.getElem_cons_zero]
      by_cases e : a = p
      · subst e; simp
      · simp [e]
    · simp only [List.getElem_cons_zero] at ha
      have e1 : cutPre p (a :: b :: r) = (b :: r, true) := by simp [cutPre, ha]
      rw [e1]
      have e2 : (b :: r).getLast? = some ((a :: b :: r)[(a :: b :: r).length - 1]'(by simp)) := by
        rw [List.getLast?_eq_getElem?]
        simp
      refine ⟨?_, fun hb => ?_⟩
      · rw [cutSuf_snd, e2]; simp
      · unfold cutSuf
        rw [if_pos (by rw [e2, hb])]
        simp [List.dropLast_eq_take]
theorem stepQ_92 (b : Bool) : stepQ b 92 = (true, !b) := by cases b <;> rfl
theorem stepQ_no {c : UInt8} (h : (c == 92) = false) : stepQ false c = (decide (32 ≤ c.toNat ∧ c.toNat ≤ 126) && !(c == 34), false) := by unfold stepQ; rw [h]; simp
theorem stepQ_mark (c : UInt8) : stepQ true c = (decide (32 ≤ c.toNat ∧ c.toNat ≤ 126), false) := by unfold stepQ; simp
set_option maxRecDepth 100000 in
set_option maxHeartbeats 4000000 in
theorem rquoted_any (s : List UInt8) (hs : s.length ≤ 1000000) (w : World) : Calls Tryz.prog 74 #[.string ⟨s.toArray⟩] w fun e w' => e = .returned (.bool (quotedB s)) ∧ w = w' := by
  by_cases h2 : s.length < 2
  · have fin : quotedB s = false := by
      match s, h2 with
      | [], _ => rfl
      | [c], _ =>
        unfold quotedB cutPre
        by_cases e : c = 34
        · subst e; rfl
        · simp [e]
    rw [fin]
    have h2' : (s.length : Int) < 2 := by omega
    go_enter Tryz.func74, Tryz.ntmps74
    go_wp2
    go_ret
    exact ⟨rfl, rfl⟩
  have h2' : ¬ (s.length : Int) < 2 := by omega
  obtain ⟨e1, e2⟩ := two_ends (s := s) (by omega) 34 34
  have p0 : 0 < s.length := by omega
  have c0 := b_is (s[0]'p0) 34 34 rfl
  rcases Bool.eq_false_or_eq_true (s[0]'p0 == 34) with q0 | q0
  rotate_left
  · rw [quoted_pre (e1.trans q0)]
    rw [q0] at c0
    have c0' : ((s[0].toNat : Int) != 34) = true := by rw [bne, c0]; rfl
    clear e1 e2 q0
    go_enter Tryz.func74, Tryz.ntmps74
    go_wp2
    go_ret
    exact ⟨rfl, rfl⟩
  obtain ⟨e3, e4⟩ := e2 (by simpa using q0)
  clear e2
  rw [q0] at c0
  have c0' : ((s[0].toNat : Int) != 34) = false := by rw [bne, c0]; rfl
  have pl : s.length - 1 < s.length := by omega
  have cl := b_is (s[s.length - 1]'pl) 34 34 rfl
  have i1 : (s.length : Int) - 1 < (s.length : Int) := by omega
  have i2 : 0 ≤ (s.length : Int) - 1 := by omega
  have i4 : 1 ≤ (s.length : Int) := by omega
  have i3 : ((s.length : Int) - 1).toNat = s.length - 1 := by omega
  have s1 : IntKind.i64.wrap ((s.length : Int) - 1) = ((s.length - 1 : Nat) : Int) := by rw [IntWalk.i64_in _ (by omega)]; omega
  rcases Bool.eq_false_or_eq_true (s[s.length - 1]'pl == 34) with ql | ql
  rotate_left
  · rw [quoted_suf (e3.trans ql)]
    rw [ql] at cl
    have cl' : ((s[s.length - 1].toNat : Int) != 34) = true := by rw [bne, cl]; rfl
    clear e1 e3 e4 q0 ql s1
    go_enter Tryz.func74, Tryz.ntmps74
    go_wp2
    go_ret
    exact ⟨rfl, rfl⟩
  have AB := Lib.hid (quoted_in (e1.trans q0) (e3.trans ql) (e4 (by simpa using ql)))
  rw [ql] at cl
  have cl' : ((s[s.length - 1].toNat : Int) != 34) = false := by rw [bne, cl]; rfl
  clear e1 e3 e4 q0 ql
  have hlt : ((s.drop 1).take (s.length - 1 - 1)).length ≤ 1000000 := by simp; omega
  have sub := run_sub s 1 (s.length - 1) (by omega) (by omega)
  rw [show ((s.length - 1 : Nat) : Int) = (s.length : Int) - 1 by omega, show ((1 : Nat) : Int) = 1 from rfl] at sub
  generalize (s.drop 1).take (s.length - 1 - 1) = t at AB hlt sub
  generalize quotedB s = r at AB ⊢
  clear s1
  go_enter Tryz.func74, Tryz.ntmps74
  go_wp2_with fail
  clear sub cl cl' c0 c0'
  go_loopw [4] (fun iv wr => ∃ k : Nat, k ≤ t.length ∧ iv = .int .i64 k ∧ eachRun stepQ false (t.take k) = (true, false) ∧ w = wr) (fun iv _ => t.length - (intOf iv).toNat)
  case atStart => exact ⟨0, by omega, rfl, rfl, rfl⟩
  case round =>
    obtain ⟨k, hk, rfl, ha, rfl⟩ := hrel
    have HA := Lib.hid ha
    clear ha
    by_cases hlt' : k < t.length
    · have hb1 : (k : Int) < (t.length : Int) := by omega
      have NX := Lib.hid (each_at hlt' HA.out)
      have ck := b_is t[k] 92 92 rfl
      have s1 : IntKind.i64.wrap ((k : Int) + 1) = ((k + 1 : Nat) : Int) := by rw [IntWalk.i64_in _ (by omega)]; omega
      rcases Bool.eq_false_or_eq_true (t[k] == 92) with qk | qk
      · rw [qk] at ck
        have e92 : t[k] = 92 := by simpa using qk
        have NX2 : Hid (eachRun stepQ false (t.take (k + 1)) = (true, true)) := by unfold Hid; rw [NX.out, e92]; rfl
        clear qk e92
        by_cases hend : k + 1 < t.length
        · have hb2 : ((k + 1 : Nat) : Int) < (t.length : Int) := by omega
          have hb3 : ¬ (t.length : Int) ≤ ((k + 1 : Nat) : Int) := by omega
          have hb4 : (k : Int) + 1 < (t.length : Int) := by omega
          have hb5 : ¬ (t.length : Int) ≤ (k : Int) + 1 := by omega
          have NX3 : Hid (eachRun stepQ false (t.take (k + 1 + 1)) = (decide (32 ≤ t[k + 1].toNat ∧ t[k + 1].toNat ≤ 126), false)) := by
            unfold Hid; rw [each_at hend NX2.out, stepQ_mark]
          by_cases r1 : (t[k + 1].toNat : Int) < 32
          · have fin : r = false := by rw [AB.out, each_off (NX3.out.trans (by rw [decide_eq_false (by omega)]))]; rfl
            subst fin
            go_wp2
            go_ret
            exact ⟨rfl, rfl⟩
          · by_cases r2 : 126 < (t[k + 1].toNat : Int)
            · have fin : r = false := by rw [AB.out, each_off (NX3.out.trans (by rw [decide_eq_false (by omega)]))]; rfl
              subst fin
              go_wp2
              go_ret
              exact ⟨rfl, rfl⟩
            · have NX4 : Hid (eachRun stepQ false (t.take (k + 1 + 1)) = (true, false)) := by unfold Hid; rw [NX3.out, decide_eq_true (by omega)]
              go_wp2
              go_roundw
              case rel => exact ⟨k + 1 + 1, by omega, by go_num, NX4.out, by simp⟩
              case measure => simp [intOf]; omega
        · have hb3 : (t.length : Int) ≤ (k : Int) + 1 := by omega
          have fin : r = false := by
            rw [AB.out]
            have h1 := NX2.out
            rw [List.take_of_length_le (by omega)] at h1
            rw [h1]; rfl
          subst fin
          go_wp2
          go_ret
          exact ⟨rfl, rfl⟩
      · rw [qk] at ck
        have NX2 : Hid (eachRun stepQ false (t.take (k + 1)) = (decide (32 ≤ t[k].toNat ∧ t[k].toNat ≤ 126) && !(t[k] == 34), false)) := by
          unfold Hid; rw [NX.out, stepQ_no qk]
        clear qk
        have c34 := b_is t[k] 34 34 rfl
        rcases Bool.eq_false_or_eq_true (t[k] == 34) with q3 | q3
        · rw [q3] at c34
          have fin : r = false := by rw [AB.out, each_off (NX2.out.trans (by rw [q3]; simp; rfl))]; rfl
          subst fin
          clear q3
          go_wp2
          go_ret
          exact ⟨rfl, rfl⟩
        rw [q3] at c34
        have NX3 : Hid (eachRun stepQ false (t.take (k + 1)) = (decide (32 ≤ t[k].toNat ∧ t[k].toNat ≤ 126), false)) := by
          unfold Hid; rw [NX2.out, q3]; simp
        clear q3
        by_cases r1 : (t[k].toNat : Int) < 32
        · have fin : r = false := by rw [AB.out, each_off (NX3.out.trans (by rw [decide_eq_false (by omega)]))]; rfl
          subst fin
          go_wp2
          go_ret
          exact ⟨rfl, rfl⟩
        · by_cases r2 : 126 < (t[k].toNat : Int)
          · have fin : r = false := by rw [AB.out, each_off (NX3.out.trans (by rw [decide_eq_false (by omega)]))]; rfl
            subst fin
            go_wp2
            go_ret
            exact ⟨rfl, rfl⟩
          · have NX4 : Hid (eachRun stepQ false (t.take (k + 1)) = (true, false)) := by unfold Hid; rw [NX3.out, decide_eq_true (by omega)]
            go_wp2
            go_roundw
            case rel => exact ⟨k + 1, by omega, by go_num, NX4.out, by simp⟩
            case measure => simp [intOf]; omega
    · obtain rfl : k = t.length := by omega
      have fin : r = true := by
        rw [AB.out]
        have h1 := HA.out
        rw [List.take_length] at h1
        rw [h1]; rfl
      subst fin
      go_wp2
      go_ret
      exact ⟨rfl, rfl⟩

set_option maxRecDepth 100000 in
set_option maxHeartbeats 4000000 in
theorem rparse_any (s : List UInt8) (hs : s.length ≤ 1000000) (w : World) : Calls Tryz.prog 54 #[.string ⟨s.toArray⟩] w fun e w' => e = .returned (parseV s) ∧ Chg [] w w' := by
  have HNO := fun h => Lib.hid (parseV_false (s := s) h)
  have HYES := fun h => Lib.hid (parseV_true (s := s) h)
  generalize hr : parseV s = r at HNO HYES ⊢
  clear hr
  have w0 : IntKind.i64.wrap ((s.length : Int) - 1) = (s.length : Int) - 1 := IntWalk.i64_in _ (by omega)
  go_enter Tryz.func54, Tryz.ntmps54
  go_wp2_with fail
  go_loopw [5] (fun iv wr => ∃ k : Nat, k ≤ s.length ∧ iv = .int .i64 ((k : Int) - 1) ∧ (∀ j (h : j < s.length), k ≤ j → s[j] ≠ 64) ∧ w = wr) (fun iv _ => (intOf iv + 1).toNat)
  case atStart => exact ⟨s.length, by omega, rfl, fun j h h' => by omega, rfl⟩
  case round =>
    clear w0
    obtain ⟨k, hk, rfl, hn, rfl⟩ := hrel
    have HN := Lib.hid hn
    clear hn
    by_cases hz : k = 0
    · subst hz
      have hl : lastAt s = 0 := by
        cases e : lastAt s with
        | zero => rfl
        | succ i =>
          obtain ⟨q1, q2, _⟩ := lastAt_succ e
          exact absurd q2 (HN.out i q1 (by omega))
      have R := HNO (parseB_loc (by unfold locOk; rw [hl]; rfl))
      have hc : ¬ (0 : Int) ≤ (((0 : Nat) : Int) - 1) := by omega
      clear HNO HYES hl
      go_wp2
      go_returns
      exact ⟨congrArg Ending.returned R.out.symm, Chg.refl _ _⟩
    obtain ⟨m, rfl⟩ : ∃ m, k = m + 1 := ⟨k - 1, by omega⟩
    rw [show ((m + 1 : Nat) : Int) - 1 = (m : Int) by omega]
    have hlt : m < s.length := by omega
    have hb1 : (m : Int) < (s.length : Int) := by omega
    have c64 := b_is s[m] 64 64 rfl
    rcases Bool.eq_false_or_eq_true (s[m] == 64) with q | q
    rotate_left
    · rw [q] at c64
      have c64' : ((s[m].toNat : Int) != 64) = true := by rw [bne, c64]; rfl
      have s1 : IntKind.i64.wrap ((m : Int) - 1) = (m : Int) - 1 := IntWalk.i64_in _ (by omega)
      have NX : Hid (∀ j (h : j < s.length), m ≤ j → s[j] ≠ 64) := by
        intro j h hj
        by_cases e : j = m
        · subst e; simpa using q
        · exact HN.out j h (by omega)
      clear q
      go_wp2
      go_roundw
      case rel => exact ⟨m, by omega, rfl, NX.out, by simp⟩
      case measure => simp [intOf]
    have hl : lastAt s = m + 1 := by
      cases e : lastAt s with
      | zero => exact absurd (by simpa using q) (lastAt_zero e m hlt)
      | succ i =>
        obtain ⟨q1, q2, q3⟩ := lastAt_succ e
        rcases Nat.lt_trichotomy i m with h | h | h
        · exact absurd (by simpa using q) (q3 m hlt h)
        · rw [h]
        · exact absurd q2 (HN.out i q1 (by omega))
    have LO : Hid (locOk s = (decide (1 ≤ m ∧ m ≤ 64) && (!(s.getLast? == some 46) && (atomsB (s.take m) || quotedB (s.take m))))) := by
      unfold Hid locOk
      rw [hl]
      congr 1
      rw [decide_eq_decide]; omega
    have LL : Hid (locL s = s.take m) := by unfold Hid locL; rw [hl]; rfl
    have LD : Hid (domL s = folded (s.drop (m + 1))) := by unfold Hid domL; rw [hl]
    have PM : Hid (locOk s = true → parseB s = may (domL s)) := by
      unfold Hid; intro h; exact parseB_may h
    rw [q] at c64
    have c64' : ((s[m].toNat : Int) != 64) = false := by rw [bne, c64]; rfl
    clear HN q hl
    by_cases h1 : m < 1
    · have R := HNO (parseB_loc (by rw [LO.out, decide_eq_false (by omega)]; rfl))
      have h1' : (m : Int) < 1 := by omega
      clear HNO HYES LO PM
      go_wp2
      go_returns
      exact ⟨congrArg Ending.returned R.out.symm, Chg.refl _ _⟩
    have h1' : ¬ (m : Int) < 1 := by omega
    have h1b : 1 ≤ (m : Int) := by omega
    by_cases h2 : 64 < m
    · have R := HNO (parseB_loc (by rw [LO.out, decide_eq_false (by omega)]; rfl))
      have h2' : 64 < (m : Int) := by omega
      clear HNO HYES LO PM
      go_wp2
      go_returns
      exact ⟨congrArg Ending.returned R.out.symm, Chg.refl _ _⟩
    have h2' : ¬ 64 < (m : Int) := by omega
    have LO2 : Hid (locOk s = (!(s.getLast? == some 46) && (atomsB (s.take m) || quotedB (s.take m)))) := by
      unfold Hid; rw [LO.out, decide_eq_true (by omega)]; rfl
    clear LO
    have pl : s.length - 1 < s.length := by omega
    have i1 : (s.length : Int) - 1 < (s.length : Int) := by omega
    have i2 : 0 ≤ (s.length : Int) - 1 := by omega
    have i4 : 1 ≤ (s.length : Int) := by omega
    have i3 : ((s.length : Int) - 1).toNat = s.length - 1 := by omega
    have cl := b_is (s[s.length - 1]'pl) 46 46 rfl
    have el : (s.getLast? == some 46) = (s[s.length - 1]'pl == 46) := by
      rw [List.getLast?_eq_getElem?, List.getElem?_eq_getElem pl]; rfl
    rw [el] at LO2
    clear el
    have sT := run_subTo s m (by omega)
    rcases Bool.eq_false_or_eq_true (s[s.length - 1]'pl == 46) with ql | ql
    · rw [ql] at cl LO2
      have R := HNO (parseB_loc (by rw [LO2.out]; rfl))
      clear HNO HYES LO2 PM ql
      go_wp2
      go_returns
      exact ⟨congrArg Ending.returned R.out.symm, Chg.refl _ _⟩
    rw [ql] at cl LO2
    clear ql
    have RA := fun w => ratoms_any (s.take m) (by simp; omega) w
    have RQ := fun w => rquoted_any (s.take m) (by simp; omega) w
    generalize hu : s.take m = u at RA RQ sT LL LO2
    clear hu
    generalize atomsB u = a at RA LO2
    generalize quotedB u = q1 at RQ LO2
    go_wp2_with fail
    refine (RA _).mono ?_
    rintro e w1 ⟨rfl, rfl⟩
    have s1 : IntKind.i64.wrap ((m : Int) + 1) = ((m + 1 : Nat) : Int) := by rw [IntWalk.i64_in _ (by omega)]; omega
    have sF := run_subFrom s (m + 1) (by omega)
    have FA := fun w => fold3_any (s.drop (m + 1)) w (by simp; omega)
    cases a
    focus
      go_wp2_with fail
      refine (RQ _).mono ?_
      rintro e w1 ⟨rfl, rfl⟩
      cases q1
      · have R := HNO (parseB_loc (by rw [LO2.out]; rfl))
        clear HNO HYES LO2 PM
        go_wp2
        go_returns
        exact ⟨congrArg Ending.returned R.out.symm, Chg.refl _ _⟩
      have L1 := Lib.hid (PM.out (by rw [LO2.out]; rfl))
      clear LO2 PM
    rotate_left
    focus
      have L1 := Lib.hid (PM.out (by rw [LO2.out]; rfl))
      clear LO2 PM
    all_goals
      go_wp2_with fail
      refine (FA _).mono ?_
      clear FA RA RQ sF s1
      rintro e w1 ⟨rfl, ch⟩
      unfold foldV
      rw [← LD.out]
      cases hmay : may (domL s)
      · have R := HNO (by rw [L1.out, hmay])
        clear HNO HYES L1 hmay
        go_wp2
        go_returns
        exact ⟨congrArg Ending.returned R.out.symm, ch⟩
      · have R := HYES (by rw [L1.out, hmay])
        rw [LL.out] at R
        clear HNO HYES L1 hmay LD LL
        generalize domL s = d at R ⊢
        go_wp2
        go_returns
        exact ⟨congrArg Ending.returned R.out.symm, ch⟩
end Go.Proofs.YtehkdbgoeakgbaaGreatDoor
/- mailroomref04: May, Show, Same, Path, Unpath. -/
namespace Go.Proofs.YtehkdbgoeakgbaaGreatDoor
set_option linter.all false
open Go.RowKit

theorem rparse_own {w0 w : World} {L : List Piece} (O : Own w0 w L) (s : List UInt8) (hs : s.length ≤ 1000000) :
    Calls Tryz.prog 54 #[.string ⟨s.toArray⟩] w fun e w' => e = .returned (parseV s) ∧ Own w0 w' L :=
  (rparse_any s hs w).mono (fun _ _ ⟨h1, h2⟩ => ⟨h1, O.pure h2⟩)
theorem rmay_own {w0 w : World} {L : List Piece} (O : Own w0 w L) (s : List UInt8) (hs : s.length ≤ 1000000) :
    Calls Tryz.prog 31 #[.string ⟨s.toArray⟩] w fun e w' => e = .returned (.bool (parseB s)) ∧ Own w0 w' L := by
  have P := rparse_own O s hs
  go_enter Tryz.func31, Tryz.ntmps31
  go_wp2_with fail
  refine P.mono ?_
  clear P O
  rintro e w1 ⟨rfl, O⟩
  rcases parse_cases s with ⟨e1, e2⟩ | ⟨e1, e2⟩
  · have E1 := Lib.hid e1
    rw [e2]
    clear e1 e2
    go_wp2
    go_ret
    rw [E1.out]; exact ⟨rfl, O⟩
  · have E1 := Lib.hid e1
    rw [e2]
    clear e1 e2
    go_wp2
    go_ret
    rw [E1.out]; exact ⟨rfl, O⟩
end Go.Proofs.YtehkdbgoeakgbaaGreatDoor
