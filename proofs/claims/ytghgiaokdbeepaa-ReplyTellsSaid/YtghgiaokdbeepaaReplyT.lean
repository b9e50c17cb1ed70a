/- mailroomref05: number, Status. -/
import Derived.Test.YtghgiaokdbeepaaReplyR
import Derived.Test.YtghgiaokdbeepaaReplyS
import Derived.Test.YtghgiaokdbeepaaReplyG
namespace Go.Proofs.Ytghgiaokdbeepaa
set_option linter.all false
open Go.RowKit

theorem StrsR.all {w : World} {a : Option Addr} {n cap : Nat} {ss : List (List UInt8)} {G : List Nat} (h : StrsR w (.slice a n cap) ss G) (hp : 0 < ss.length) :
    ∃ g off, a = some ⟨g, off, none⟩ ∧ ∀ i (h : i < ss.length), w.cell? ⟨g, off + i, none⟩ = some (.string ⟨ss[i].toArray⟩) := by
  obtain ⟨a', cap', hv, hr⟩ := h
  obtain ⟨g, off, rfl, _, hc⟩ := hr hp
  simp only [Value.slice.injEq] at hv
  exact ⟨g, off, hv.1, hc⟩
theorem dig_true {c : UInt8} (h : 48 ≤ (c.toNat : Int) ∧ (c.toNat : Int) ≤ 57) : isDig c = true := by simp only [isDig, decide_eq_true_eq]; omega
theorem dig_false {c : UInt8} (h : ¬ (48 ≤ (c.toNat : Int) ∧ (c.toNat : Int) ≤ 57)) : isDig c = false := by simp only [isDig, decide_eq_false_iff_not]; omega

set_option maxHeartbeats 1000000 in
theorem number5_any (l : List UInt8) (w : World) (hs : l.length ≤ maxLen) (b : Bool) (hb : num5 l = b) :
    Calls Try.prog 40 #[.string ⟨l.toArray⟩] w fun e w' => e = .returned (.bool b) ∧ w = w' := by
  unfold maxLen at hs
  have R := Lib.hid hb; clear hb
  by_cases h1 : l.length < 1
  · have E : b = false := by rw [← R.out]; simp [num5]; omega
    subst E
    go_enter Try.func40, Try.ntmps40
    go_wp2
    go_ret
    exact ⟨rfl, rfl⟩
  by_cases h2 : 3 < l.length
  · have E : b = false := by rw [← R.out]; simp [num5]; omega
    subst E
    go_enter Try.func40, Try.ntmps40
    go_wp2
    go_ret
    exact ⟨rfl, rfl⟩
  have l0 : 0 < l.length := by omega
  have g0 := getD_lt l 0 l0
  have G0 := Lib.hid g0; clear g0
  have hz : (1 < l.length ∧ ((l[0].toNat : Int) == 48) = true) ∨ ((1 < l.length ∧ ((l[0].toNat : Int) == 48) = false) ∨ ¬ 1 < l.length) := by
    by_cases h3 : 1 < l.length
    · by_cases h4 : (l[0].toNat : Int) = 48
      · exact .inl ⟨h3, by simp [h4]⟩
      · exact .inr (.inl ⟨h3, by simpa using h4⟩)
    · exact .inr (.inr h3)
  have HH := Lib.hid hz
  rcases hz with ⟨h3, h4⟩ | hz
  · have E : b = false := by
      rw [← R.out]; unfold num5
      have : (l.getD 0 0).toNat = 48 := by rw [G0.out]; simp at h4; omega
      simp only [this]
      simp; intro _ h5; omega
    subst E
    go_enter Try.func40, Try.ntmps40
    go_wp2
    go_ret
    exact ⟨rfl, rfl⟩
  have E : b = l.all isDig := by
    rw [← R.out]; unfold num5
    have : decide (1 ≤ l.length ∧ l.length ≤ 3 ∧ (l.length ≤ 1 ∨ ¬ (l.getD 0 0).toNat = 48)) = true := by
      rw [decide_eq_true_eq]
      refine ⟨by omega, by omega, ?_⟩
      rcases hz with ⟨_, h4⟩ | h4
      · right; rw [G0.out]; simp at h4; omega
      · left; omega
    rw [this]; rfl
  have EE := Lib.hid E
  clear HH R E
  rcases hz with ⟨h3, h4⟩ | h3
  all_goals
    go_enter Try.func40, Try.ntmps40
    go_wp2_with fail
    go_loop [3] (fun i => ∃ k : Nat, k ≤ l.length ∧ i = .int .i64 k ∧ (l.take k).all isDig = true) (fun i => l.length - (intOf i).toNat)
    case atStart => exact ⟨0, Nat.zero_le _, rfl, rfl⟩
    case round =>
      obtain ⟨k, hk, rfl, hall⟩ := hrel
      have H := Lib.hid hall; clear hall
      by_cases hlt : k < l.length
      · have hb1 : (k : Int) < (l.length : Int) := by omega
        by_cases hd : 48 ≤ (l[k].toNat : Int) ∧ (l[k].toNat : Int) ≤ 57
        · have HD := Lib.hid hd; clear hd
          go_wp2_with fail
          refine (digit5_any _ _ _ _ true (decide_eq_true HD.out)).mono ?_
          rintro e w' ⟨rfl, rfl⟩
          go_wp2
          go_round
          case rel => exact ⟨k + 1, by omega, by go_num, all_snoc hlt H.out (dig_true HD.out)⟩
          case measure => simp [intOf]; omega
        · have HD := Lib.hid hd; clear hd
          go_wp2_with fail
          refine (digit5_any _ _ _ _ false (decide_eq_false HD.out)).mono ?_
          rintro e w' ⟨rfl, rfl⟩
          go_wp2
          go_ret
          exact ⟨ret_bool (by rw [EE.out]; exact (all_not hlt (dig_false HD.out)).symm), rfl⟩
      · go_wp2
        go_ret
        exact ⟨ret_bool (by rw [EE.out]; exact (all_full hlt H.out).symm), rfl⟩

/-- the first word, as far as it is looked for from behind -/
def wordAt (l : List UInt8) (k : Nat) : List UInt8 := l.take k ++ word5 (l.drop k)
theorem wordAt_len (l : List UInt8) (k : Nat) : (wordAt l k).length ≤ l.length := by
  unfold wordAt word5
  have := (List.takeWhile_sublist (fun y : UInt8 => decide (y ≠ 32)) (l := l.drop k)).length_le
  simp at this ⊢; omega
theorem wordAt_end (l : List UInt8) : wordAt l l.length = l := by simp [wordAt, word5]
theorem wordAt_zero (l : List UInt8) : wordAt l 0 = word5 l := by simp [wordAt]
theorem wordAt_sp {l : List UInt8} {k : Nat} (h : k < l.length) (hc : l[k] = 32) : wordAt l k = l.take k := by
  unfold wordAt word5
  rw [List.drop_eq_getElem_cons h, List.takeWhile_cons]
  simp [hc]
theorem wordAt_no {l : List UInt8} {k : Nat} (h : k < l.length) (hc : ¬ l[k] = 32) : wordAt l k = wordAt l (k + 1) := by
  unfold wordAt word5
  rw [List.drop_eq_getElem_cons h, List.takeWhile_cons, if_pos (by simpa using hc), List.append_cons, ← List.take_succ_eq_append_getElem h]

/-- a text's parts, as far as they are cut -/
structure CutTo (l : List UInt8) (i f : Nat) (done : List (List UInt8)) : Prop where
  len : done.length ≤ i
  mid : i ≤ l.length → f ≤ i ∧ 46 ∉ (l.drop f).take (i - f) ∧ cut46 l = done ++ cut46 (l.drop f)
  fin : i = l.length + 1 → done = cut46 l
theorem cutTo_zero (l : List UInt8) : CutTo l 0 0 [] := ⟨by simp, fun _ => ⟨by omega, by simp, by simp⟩, fun h => by simp at h⟩
theorem CutTo.last {l : List UInt8} {f : Nat} {done : List (List UInt8)} (h : CutTo l l.length f done) : CutTo l (l.length + 1) (l.length + 1) (done ++ [l.drop f]) := by
  obtain ⟨h1, h2, h3⟩ := h.mid (Nat.le_refl _)
  have h4 := h.len
  have e : (l.drop f).take (l.length - f) = l.drop f := List.take_of_length_le (by simp)
  rw [e] at h2
  refine ⟨by simp; omega, fun h => by omega, fun _ => ?_⟩
  rw [h3, cut46_one h2]
theorem CutTo.dot {l : List UInt8} {i f : Nat} {done : List (List UInt8)} (h : CutTo l i f done) (hi : i < l.length) (hc : l[i] = 46) : CutTo l (i + 1) (i + 1) (done ++ [(l.take i).drop f]) := by
  obtain ⟨h1, h2, h3⟩ := h.mid (Nat.le_of_lt hi)
  have h4 := h.len
  refine ⟨by simp; omega, fun _ => ⟨by omega, by simp, ?_⟩, fun h => by omega⟩
  have e : l.drop f = (l.drop f).take (i - f) ++ 46 :: l.drop (i + 1) := by
    have e1 := (List.take_append_drop (i - f) (l.drop f)).symm
    rw [List.drop_drop, show f + (i - f) = i by omega, List.drop_eq_getElem_cons hi, hc] at e1
    exact e1
  have e2 : (l.take i).drop f = (l.drop f).take (i - f) := by rw [List.drop_take]
  rw [h3, e2]
  conv => lhs; rw [e]
  rw [cut46_dot h2]
  simp
theorem CutTo.on {l : List UInt8} {i f : Nat} {done : List (List UInt8)} (h : CutTo l i f done) (hi : i < l.length) (hc : ¬ l[i] = 46) : CutTo l (i + 1) f done := by
  obtain ⟨h1, h2, h3⟩ := h.mid (Nat.le_of_lt hi)
  have h4 := h.len
  refine ⟨by omega, fun _ => ⟨by omega, ?_, h3⟩, fun h => by omega⟩
  have hl : i - f < (l.drop f).length := by simp; omega
  rw [show i + 1 - f = (i - f) + 1 by omega, List.take_succ_eq_append_getElem hl]
  simp only [List.mem_append, List.mem_singleton, not_or]
  refine ⟨h2, ?_⟩
  rw [List.getElem_drop]
  intro e
  exact hc (by rw [e]; congr 1; omega)

set_option maxHeartbeats 2000000 in
theorem status5_any (code : Int) (hcode : 0 ≤ code ∧ code ≤ 100000) (l : List UInt8) (w : World) (hs : l.length ≤ 1000000000) :
    Calls Try.prog 35 #[.int .i64 code, .string ⟨l.toArray⟩] w fun e w' => e = .returned (.string ⟨(status5 code l).toArray⟩) ∧ Chg [] w w' := by
  obtain ⟨hc1, hc2⟩ := hcode
  go_enter Try.func35, Try.ntmps35
  go_wp2_with fail
  go_loop [5, 6] (fun wd i => ∃ k : Nat, k ≤ l.length ∧ i = .int .i64 ((k : Int) - 1) ∧ wd = .string ⟨(wordAt l k).toArray⟩) (fun _ i => (intOf i + 1).toNat)
  case atStart => exact ⟨l.length, Nat.le_refl _, rfl, by rw [wordAt_end]⟩
  obtain ⟨k, hk, rfl, rfl⟩ := hrel
  have hwl := wordAt_len l k
  by_cases h0 : k = 0
  rotate_left
  · obtain ⟨k, rfl⟩ : ∃ j, k = j + 1 := ⟨k - 1, by omega⟩
    have hlt : k < l.length := by omega
    have hb1 : (k : Int) < (l.length : Int) := by omega
    have ek : ((k + 1 : Nat) : Int) - 1 = (k : Int) := by omega
    rw [ek]
    clear ek h0
    by_cases hc : (l[k].toNat : Int) = 32
    · have hc' : l[k] = 32 := UInt8.toNat_inj.1 (by simpa using (show l[k].toNat = 32 by omega))
      have E := Lib.hid (wordAt_sp hlt hc'); clear hc'
      go_wp2
      go_round
      case rel => exact ⟨k, by omega, rfl, by rw [E.out]⟩
      case measure => simp [intOf]
    · have hc' : ¬ l[k] = 32 := fun e => hc (by rw [e]; rfl)
      have E := Lib.hid (wordAt_no hlt hc'); clear hc'
      go_wp2
      go_round
      case rel => exact ⟨k, by omega, rfl, by rw [E.out]⟩
      case measure => simp [intOf]
  subst h0
  obtain ⟨wd, hwd⟩ : ∃ r, r = wordAt l 0 := ⟨_, rfl⟩
  rw [← hwd] at hwl ⊢
  have WD : Hid (wd = word5 l) := by unfold Hid; rw [hwd, wordAt_zero]
  clear hwd hk
  go_wp2_with fail
  have O0 := (Own.start w).nilStrs
  go_loopw [7, 8, 9] (fun pv fv iv wr => ∃ (i f : Nat) (done : List (List UInt8)), iv = .int .i64 i ∧ fv = .int .i64 f ∧ i ≤ wd.length + 1 ∧ f ≤ wd.length + 1 ∧ CutTo wd i f done ∧ Own w wr [strs pv done]) (fun _ _ iv _ => wd.length + 1 - (intOf iv).toNat)
  case atStart => exact ⟨0, 0, [], rfl, rfl, by omega, by omega, cutTo_zero wd, O0⟩
  case round =>
    clear O0
    obtain ⟨i, f, done, rfl, rfl, hi, hf, hcut, O⟩ := hrel
    obtain ⟨a0, cap0, rfl⟩ := O.shape
    have CT := Lib.hid hcut
    have hdl := hcut.len
    by_cases hle : i ≤ wd.length
    · obtain ⟨hfi, -, -⟩ := hcut.mid hle
      clear hcut
      have hb1 : (i : Int) ≤ (wd.length : Int) := by omega
      have hb2 : (f : Int) ≤ (i : Int) := by omega
      by_cases he : i = wd.length
      · subst he
        have he' : ((wd.length : Int) == (wd.length : Int)) = true := by simp
        go_wp2_with (at_builtin; refine wpList_append_strO rfl _ _ rfl _ done (wd.drop f) O rfl rfl (by omega) ?_)
        intro v' w' O'
        obtain ⟨a1, cap1, rfl⟩ := O'.shape
        clear O
        go_wp2
        go_roundw
        case rel => exact ⟨wd.length + 1, wd.length + 1, _, by go_num, by go_num, by omega, by omega, CT.out.last, O'⟩
        case measure => simp [intOf]
      · have hlt : i < wd.length := by omega
        have hb3 : (i : Int) < (wd.length : Int) := by omega
        have he' : ((i : Int) == (wd.length : Int)) = false := by simp; omega
        by_cases hc : (wd[i].toNat : Int) = 46
        · have hc' : wd[i] = 46 := UInt8.toNat_inj.1 (by simpa using (show wd[i].toNat = 46 by omega))
          have hcb : ((wd[i].toNat : Int) == 46) = true := by simp [hc]
          have N := Lib.hid (CT.out.dot hlt hc'); clear hc hc' he
          go_wp2_with (at_builtin; refine wpList_append_strO rfl _ _ rfl _ done ((wd.take i).drop f) O rfl rfl (by omega) ?_)
          intro v' w' O'
          obtain ⟨a1, cap1, rfl⟩ := O'.shape
          clear O
          go_wp2
          go_roundw
          case rel => exact ⟨i + 1, i + 1, _, by go_num, by go_num, by omega, by omega, N.out, O'⟩
          case measure => simp [intOf]; omega
        · have hc' : ¬ wd[i] = 46 := fun e => hc (by rw [e]; rfl)
          have hcb : ((wd[i].toNat : Int) == 46) = false := by simp [hc]
          have N := Lib.hid (CT.out.on hlt hc'); clear hc hc' he
          go_wp2
          go_roundw
          case rel => exact ⟨i + 1, f, _, by go_num, rfl, by omega, by omega, N.out, O⟩
          case measure => simp [intOf]; omega
    · have hend : i = wd.length + 1 := by omega
      subst hend
      have DN := Lib.hid (CT.out.fin rfl)
      clear hcut CT hle hi
      have hb1 : (wd.length : Int) < ((wd.length + 1 : Nat) : Int) := by omega
      by_cases h3 : done.length = 3
      rotate_left
      · have h3' : ((done.length : Int) != 3) = true := by simp; omega
        have E : Hid (status5 code l = []) := by
          unfold Hid status5
          rw [← WD.out, ← DN.out, if_neg]
          intro h
          unfold parts5 at h
          split at h
          · exact h3 rfl
          · cases h
        clear h3
        go_wp2
        go_ret
        exact ⟨by rw [E.out]; rfl, O.chg⟩
      match done, h3 with
      | [a, b, c], _ =>
        have hv := row_shape' O.row
        rcases hv with hv | ⟨g, cap, hv⟩
        · cases hv
        simp only [Value.slice.injEq] at hv
        obtain ⟨rfl, -, rfl⟩ := hv
        have c0 : wr.cell? ⟨g, 0, none⟩ = some (.string ⟨a.toArray⟩) := strsR_cell O.strsR 0 (by simp)
        have c1 : wr.cell? ⟨g, 1, none⟩ = some (.string ⟨b.toArray⟩) := strsR_cell O.strsR 1 (by simp)
        have c2 : wr.cell? ⟨g, 2, none⟩ = some (.string ⟨c.toArray⟩) := strsR_cell O.strsR 2 (by simp)
        have E : Hid (status5 code l = if parts5 code [a, b, c] then wd else []) := by unfold Hid status5; rw [← WD.out, ← DN.out]
        have hcut : cut46 wd = [a, b, c] := DN.out.symm
        have hlen : a.length ≤ wd.length ∧ b.length ≤ wd.length ∧ c.length ≤ wd.length := by
          have h1 := (cut46_cons hcut).2
          rcases h1 with ⟨h1, _⟩ | ⟨t1, h1, e1⟩
          · cases h1
          have h2 := (cut46_cons e1).2
          rcases h2 with ⟨h2, _⟩ | ⟨t2, h2, e2⟩
          · cases h2
          have h3 := (cut46_cons e2).2
          rcases h3 with ⟨_, h3⟩ | ⟨t3, _, e3⟩
          · rw [h1, h2, h3]; simp; omega
          · exact absurd e3 (cut46_ne _)
        obtain ⟨la, lb, lc⟩ := hlen
        clear hcut DN WD hf
        by_cases h1 : a.length = 1
        rotate_left
        · have h1' : ((a.length : Int) != 1) = true := by simp; omega
          have E2 : Hid (parts5 code [a, b, c] = false) := by unfold Hid parts5; simp [h1]
          clear h1
          go_wp2
          go_ret
          exact ⟨by rw [E.out, E2.out]; simp, O.chg⟩
        have h1' : ((a.length : Int) != 1) = false := by simp [h1]
        have H1 := Lib.hid h1; clear h1
        cases n1 : num5 a
        · have E2 : Hid (parts5 code [a, b, c] = false) := by unfold Hid parts5; simp [n1]
          have N1 := Lib.hid n1; clear n1
          go_wp2_with fail
          refine (number5_any a _ (by unfold maxLen; omega) _ N1.out).mono ?_
          rintro e w' ⟨rfl, rfl⟩
          go_wp2_with fail
          go_ret
          exact ⟨by rw [E.out, E2.out]; simp, O.chg⟩
        have N1 := Lib.hid n1; clear n1
        cases n2 : num5 b
        · have E2 : Hid (parts5 code [a, b, c] = false) := by unfold Hid parts5; simp [n2]
          have N2 := Lib.hid n2; clear n2
          go_wp2_with fail
          refine (number5_any a _ (by unfold maxLen; omega) _ N1.out).mono ?_
          rintro e w' ⟨rfl, rfl⟩
          go_wp2_with fail
          refine (number5_any b _ (by unfold maxLen; omega) _ N2.out).mono ?_
          rintro e w' ⟨rfl, rfl⟩
          go_wp2_with fail
          go_ret
          exact ⟨by rw [E.out, E2.out]; simp, O.chg⟩
        have N2 := Lib.hid n2; clear n2
        cases n3 : num5 c
        · have E2 : Hid (parts5 code [a, b, c] = false) := by unfold Hid parts5; simp [n3]
          have N3 := Lib.hid n3; clear n3
          go_wp2_with fail
          refine (number5_any a _ (by unfold maxLen; omega) _ N1.out).mono ?_
          rintro e w' ⟨rfl, rfl⟩
          go_wp2_with fail
          refine (number5_any b _ (by unfold maxLen; omega) _ N2.out).mono ?_
          rintro e w' ⟨rfl, rfl⟩
          go_wp2_with fail
          refine (number5_any c _ (by unfold maxLen; omega) _ N3.out).mono ?_
          rintro e w' ⟨rfl, rfl⟩
          go_wp2_with fail
          go_ret
          exact ⟨by rw [E.out, E2.out]; simp, O.chg⟩
        have N3 := Lib.hid n3; clear n3
        match a, H1 with
        | [x], _ =>
          have hx : isDig x = true := by simpa using (num5_dig N1.out).1
          have hxb : 48 ≤ (x.toNat : Int) ∧ (x.toNat : Int) ≤ 57 := by simp only [isDig, decide_eq_true_eq] at hx; omega
          obtain ⟨hx1, hx2⟩ := hxb
          have E2 : Hid (parts5 code [[x], b, c] = (decide ((x.toNat : Int) - 48 = code / 100) && decide (¬ (x.toNat : Int) - 48 = 3))) := by
            show (decide ([x].length = 1) && num5 [x] && num5 b && num5 c && decide (((([x] : List UInt8).getD 0 0).toNat : Int) - 48 = code / 100) && decide (¬ ((([x] : List UInt8).getD 0 0).toNat : Int) - 48 = 3)) = _; rw [N1.out, N2.out, N3.out]; simp
          clear hx
          by_cases q1 : (x.toNat : Int) - 48 = code / 100
          rotate_left
          focus
            have b1 : ((x.toNat : Int) - 48 != code / 100) = true := by simpa using q1
            have E3 : Hid ((if parts5 code [[x], b, c] = true then wd else []) = []) := by unfold Hid; rw [E2.out, decide_eq_false q1]; simp
            clear q1
          rotate_left
          by_cases q2 : (x.toNat : Int) - 48 = 3
          focus
            have b1 : ((x.toNat : Int) - 48 != code / 100) = false := by simp [q1]
            have b2 : ((x.toNat : Int) - 48 == 3) = true := by simp [q2]
            have E3 : Hid ((if parts5 code [[x], b, c] = true then wd else []) = []) := by unfold Hid; rw [E2.out, q2]; simp
            clear q1 q2
          rotate_left
          focus
            have b1 : ((x.toNat : Int) - 48 != code / 100) = false := by simp [q1]
            have b2 : ((x.toNat : Int) - 48 == 3) = false := by simpa using q2
            have E3 : Hid ((if parts5 code [[x], b, c] = true then wd else []) = wd) := by unfold Hid; rw [E2.out, decide_eq_true q1, decide_eq_true q2]; simp
            clear q1 q2
          all_goals
            go_wp2_with fail
            refine (number5_any [x] _ (by unfold maxLen; omega) _ N1.out).mono ?_
            rintro e w' ⟨rfl, rfl⟩
            go_wp2_with fail
            refine (number5_any b _ (by unfold maxLen; omega) _ N2.out).mono ?_
            rintro e w' ⟨rfl, rfl⟩
            go_wp2_with fail
            refine (number5_any c _ (by unfold maxLen; omega) _ N3.out).mono ?_
            rintro e w' ⟨rfl, rfl⟩
            go_wp2_with fail
            go_ret
            exact ⟨by rw [E.out, E3.out]; rfl, O.chg⟩
end Go.Proofs.Ytghgiaokdbeepaa
