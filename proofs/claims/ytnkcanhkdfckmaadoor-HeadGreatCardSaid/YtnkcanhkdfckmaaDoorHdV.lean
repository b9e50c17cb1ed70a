/- mailroomref01: Cut (from LineParts, LineI). -/
import Derived.Test.YtnkcanhkdfckmaaDoorHdU
import Derived.Test.YtnkcanhkdfckmaaDoorLineA
import Derived.Test.YtnkcanhkdfckmaaDoorStep
namespace Go.Proofs.YtnkcanhkdfckmaaDoor
set_option linter.all false
open Go.RowKit Go.Shelf

theorem u8_eq {c : UInt8} {n : Nat} (hn : n < 256) : ((c.toNat : Int) = n) ↔ c = UInt8.ofNat n := by
  constructor
  · intro h
    have h : c.toNat = n := by omega
    apply UInt8.toNat_inj.1
    rw [h]; simp; omega
  · rintro rfl
    simp; omega
theorem cutL_app : ∀ (x y : List UInt8), cutL (x ++ y) = ((cutL x).1 ++ (cutL ((cutL x).2 ++ y)).1, (cutL ((cutL x).2 ++ y)).2)
  | [], y => rfl
  | [c], y => rfl
  | c :: d :: t, y => by
    by_cases h : c = 13 ∧ d = 10
    · have ih := cutL_app t y
      rw [List.cons_append, List.cons_append, cutL, if_pos h, cutL, if_pos h, ih]
      rfl
    · have ih := cutL_app (d :: t) y
      rw [List.cons_append] at ih
      rw [List.cons_append, List.cons_append, cutL, if_neg h, ih, cutL, if_neg h]
      cases hq : (cutL (d :: t)).1 with
      | nil =>
        have hn := cutL_none hq
        simp only [pushL, hq, hn, List.nil_append, List.cons_append]
        have e : cutL (c :: d :: (t ++ y)) = pushL c (cutL (d :: (t ++ y))) := by rw [cutL, if_neg h]
        rw [e]
        rfl
      | cons a r => simp [pushL, hq]
theorem cutL_rest (s : List UInt8) : (cutL (cutL s).2).1 = [] := by
  have h := (atL_cut s (cutL s).1.length (Nat.le_refl _)).2.1
  rw [List.drop_length, (cutL_join s).2.1] at h
  rw [h]
/-- does a text end by CR LF? -/
def endedB (t : List UInt8) : Bool := decide (1 < t.length) && (decide ((t.getD (t.length - 2) 0).toNat = 13) && decide ((t.getD (t.length - 1) 0).toNat = 10))
theorem ended_any (w : World) (t : List UInt8) (ht : t.length ≤ 140737488351232) :
    Calls Tryd.prog 63 #[.string ⟨t.toArray⟩] w fun e w' => e = .returned (.bool (endedB t)) ∧ w = w' := by
  go_enter Tryd.func63, Tryd.ntmps63
  by_cases h1 : 1 < t.length
  rotate_left
  · have hb : ¬ (1 : Int) < (t.length : Int) := by omega
    go_wp2
    go_ret
    exact ⟨by unfold endedB; simp [h1], rfl⟩
  have hb : (1 : Int) < (t.length : Int) := by omega
  have b1 : (0 : Int) ≤ (t.length : Int) - 2 := by omega
  have b2 : (t.length : Int) - 2 < (t.length : Int) := by omega
  have b3 : ((t.length : Int) - 2).toNat = t.length - 2 := by omega
  have b4 : t.length - 2 < t.length := by omega
  have b5 : (0 : Int) ≤ (t.length : Int) - 1 := by omega
  have b6 : (t.length : Int) - 1 < (t.length : Int) := by omega
  have b7 : ((t.length : Int) - 1).toNat = t.length - 1 := by omega
  have b8 : t.length - 1 < t.length := by omega
  have HE : Hid (endedB t = (decide (t[t.length - 2].toNat = 13) && decide (t[t.length - 1].toNat = 10))) := by
    unfold Hid endedB
    simp [h1, b4, b8]
  by_cases h2 : (t[t.length - 2].toNat : Int) = 13
  rotate_left
  · have h2' : ((t[t.length - 2].toNat : Int) == 13) = false := by simpa using h2
    have h2n : decide (t[t.length - 2].toNat = 13) = false := decide_eq_false (by omega)
    rw [h2n] at HE
    clear h2n
    go_wp2
    go_ret
    exact ⟨by rw [HE.out]; rfl, rfl⟩
  have h2n : decide (t[t.length - 2].toNat = 13) = true := decide_eq_true (by omega)
  rw [h2n] at HE
  clear h2n
  by_cases h3 : (t[t.length - 1].toNat : Int) = 10
  · have h3' : ((t[t.length - 1].toNat : Int) == 10) = true := by simpa using h3
    have h3n : decide (t[t.length - 1].toNat = 10) = true := decide_eq_true (by omega)
    rw [h3n] at HE
    clear h3n
    go_wp2
    go_ret
    exact ⟨by rw [HE.out]; rfl, rfl⟩
  · have h3' : ((t[t.length - 1].toNat : Int) == 10) = false := by simpa using h3
    have h3n : decide (t[t.length - 1].toNat = 10) = false := decide_eq_false (by omega)
    rw [h3n] at HE
    clear h3n
    go_wp2
    go_ret
    exact ⟨by rw [HE.out]; rfl, rfl⟩
theorem toNat_eq {c : UInt8} {n : Nat} (hn : n < 256) : c.toNat = n ↔ c = UInt8.ofNat n := by
  have := u8_eq (c := c) hn
  rw [← this]; omega
/-- one byte more -/
theorem cut_snoc : ∀ (r : List UInt8) (c : UInt8), (cutL r).1 = [] → cutL (r ++ [c]) = if endedB (r ++ [c]) then ([(r ++ [c]).take (r.length - 1)], []) else ([], r ++ [c])
  | [], c, _ => by simp [endedB, cutL]
  | [a], c, _ => by
    have h13 : (a.toNat = 13) ↔ a = 13 := toNat_eq (by decide)
    have h10 : (c.toNat = 10) ↔ c = 10 := toNat_eq (by decide)
    simp only [List.cons_append, List.nil_append, cutL, endedB]
    by_cases h : a = 13 ∧ c = 10
    · rw [if_pos h]
      simp [h13, h10, h.1, h.2]
    · rw [if_neg h]
      simp [h13, h10, pushL]
      intro h1 h2
      exact absurd ⟨h1, h2⟩ h
  | a :: b :: t, c, h => by
    by_cases h0 : a = 13 ∧ b = 10
    · rw [cutL, if_pos h0] at h; cases h
    · rw [cutL, if_neg h0] at h
      have h' : (cutL (b :: t)).1 = [] := by
        cases hq : (cutL (b :: t)).1 with
        | nil => rfl
        | cons x y => simp [pushL, hq] at h
      have ih := cut_snoc (b :: t) c h'
      have he : endedB (a :: b :: t ++ [c]) = endedB (b :: t ++ [c]) := by
        unfold endedB
        simp only [List.cons_append, List.length_cons, List.length_append, List.length_nil]
        rw [show t.length + (0 + 1) + 1 + 1 - 2 = (t.length + (0 + 1) + 1 - 2) + 1 from by omega, show t.length + (0 + 1) + 1 + 1 - 1 = (t.length + (0 + 1) + 1 - 1) + 1 from by omega, List.getD_cons_succ, List.getD_cons_succ]
        congr 1
      rw [List.cons_append, List.cons_append, cutL, if_neg h0, ← List.cons_append, ih, show endedB (a :: (b :: t ++ [c])) = endedB (b :: t ++ [c]) from he]
      by_cases hh : endedB (b :: t ++ [c]) = true
      · rw [if_pos hh, if_pos hh]
        simp [pushL]
      · rw [if_neg hh, if_neg hh]
        simp [pushL]
/-- where a text's lines stand when k of its bytes are read -/
theorem cut_step {s : List UInt8} {k : Nat} (h : k < s.length) : cutL (s.take (k + 1)) = if endedB ((cutL (s.take k)).2 ++ [s[k]]) then ((cutL (s.take k)).1 ++ [((cutL (s.take k)).2 ++ [s[k]]).take ((cutL (s.take k)).2.length - 1)], []) else ((cutL (s.take k)).1, (cutL (s.take k)).2 ++ [s[k]]) := by
  rw [List.take_succ_eq_append_getElem h, cutL_app, cut_snoc _ _ (cutL_rest _)]
  split <;> simp

set_option maxHeartbeats 1000000 in
theorem refCut_own {w0 w : World} {L : List Piece} (O : Own w0 w L) (s : List UInt8) (hs : s.length ≤ 100000000) :
    Calls Tryd.prog 42 #[.string ⟨s.toArray⟩] w fun e w' => ∃ v, e = .returned (.tuple #[v, .string ⟨(cutL s).2.toArray⟩]) ∧ Own w0 w' (strs v (cutL s).1 :: L) := by
  go_enter Tryd.func42, Tryd.ntmps42
  replace O := O.nilStrs
  go_wp2_with fail
  go_loopw [4, 5, 6] (fun ov fv iv wr => ∃ (k fr : Nat) (ls : List (List UInt8)) (r : List UInt8) (v : Value), ov = v ∧ fv = .int .i64 fr ∧ iv = .int .i64 k ∧ k ≤ s.length ∧ cutL (s.take k) = (ls, r) ∧ fr + r.length = k ∧ (s.take k).drop fr = r ∧ Own w0 wr (strs v ls :: L)) (fun _ _ iv _ => s.length - (intOf iv).toNat)
  case atStart => exact ⟨0, 0, [], [], _, rfl, rfl, rfl, by omega, rfl, rfl, rfl, O⟩
  case round =>
    clear O
    obtain ⟨k, fr, ls, r, v, rfl, rfl, rfl, hk, hc, hfr, hr, O⟩ := hrel
    have C := Lib.hid hc; have R := Lib.hid hr
    obtain ⟨a, cap, rfl⟩ := O.shape
    have hll : ls.length ≤ 1000000000 := by
      have := cutL_len (s.take k)
      rw [hc] at this
      simp at this; omega
    clear hc hr
    by_cases hlt : k < s.length
    · have hstep := cut_step hlt
      rw [C.out] at hstep
      dsimp only at hstep
      have HS := Lib.hid hstep; clear hstep
      have hb1 : (k : Int) < (s.length : Int) := by omega
      have hb2 : (fr : Int) ≤ (k : Int) + 1 := by omega
      have hb3 : (k : Int) + 1 ≤ (s.length : Int) := by omega
      have t1 : ((k : Int) + 1).toNat = k + 1 := by omega
      have hrr : (s.take (k + 1)).drop fr = r ++ [s[k]] := by
        rw [List.take_succ_eq_append_getElem hlt, List.drop_append_of_le_length (by simp; omega), R.out]
      have HR := Lib.hid hrr; clear hrr
      go_wp2_with fail
      rw [HR.out]
      refine (ended_any _ (r ++ [s[k]]) (by simp; omega)).mono ?_
      rintro e w1 ⟨rfl, rfl⟩
      cases he : endedB (r ++ [s[k]])
      · have HE := Lib.hid he; clear he
        go_wp2
        go_roundw
        case rel => exact ⟨k + 1, fr, ls, r ++ [s[k]], _, rfl, rfl, by go_num, by omega, by rw [HS.out, HE.out]; rfl, by simp; omega, HR.out, O⟩
        case measure => simp [intOf]; omega
      · have hr1 : 1 ≤ r.length := by
          rcases Nat.lt_or_ge 0 r.length with h | h
          · exact h
          · have : r = [] := List.eq_nil_of_length_eq_zero (by omega)
            subst this
            simp [endedB] at he
        have HE := Lib.hid he; clear he
        have hb4 : (fr : Int) ≤ (k : Int) - 1 := by omega
        have hb5 : (k : Int) - 1 ≤ (s.length : Int) := by omega
        have hb6 : (0 : Int) ≤ (k : Int) - 1 := by omega
        have t2 : ((k : Int) - 1).toNat = k - 1 := by omega
        have hx : (s.take (k - 1)).drop fr = (r ++ [s[k]]).take (r.length - 1) := by
          rw [← HR.out, List.take_drop, List.take_take]
          congr 2
          omega
        have HX := Lib.hid hx; clear hx
        obtain ⟨x, hx⟩ : ∃ x, x = (r ++ [s[k]]).take (r.length - 1) := ⟨_, rfl⟩
        rw [← hx] at HX
        have HXX := Lib.hid hx; clear hx
        go_wp2_with (at_builtin; refine wpList_append_strO rfl _ _ rfl _ ls ((s.take (k - 1)).drop fr) O rfl rfl hll ?_)
        intro v' w3 O4
        rw [HX.out] at O4
        obtain ⟨a3, cap3, rfl⟩ := O4.shape
        go_wp2
        go_roundw
        case rel => exact ⟨k + 1, k + 1, ls ++ [x], [], _, rfl, by go_num, by go_num, by omega, by rw [HS.out, HE.out, HXX.out]; rfl, by simp, by simp, O4⟩
        case measure => simp [intOf]; omega
    · obtain rfl : k = s.length := by omega
      have hb1 : ¬ (s.length : Int) < (s.length : Int) := by omega
      have hb2 : (fr : Int) ≤ (s.length : Int) := by omega
      have hr := R.out
      have hc := C.out
      rw [List.take_length] at hr hc
      have HR := Lib.hid hr; have HC := Lib.hid hc
      clear hr hc
      go_wp2_with fail
      go_quiet (fail)
      go_wp2
      rw [HC.out, HR.out]
      go_ret2
      exact ⟨_, rfl, O.drewN _⟩
end Go.Proofs.YtnkcanhkdfckmaaDoor
