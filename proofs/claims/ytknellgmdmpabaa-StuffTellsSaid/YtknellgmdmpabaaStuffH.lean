/- mailroomref08: Stuff, Unstuff, Dots, Whole. -/
import Derived.Test.YtknellgmdmpabaaStuffG
import Derived.Test.YtknellgmdmpabaaStuffBack
namespace Go.Proofs.Ytknellgmdmpabaa
set_option linter.all false
open Go.RowKit Go.Shelf

/-- a line's first byte -/
theorem head_dot (x : List UInt8) : ∃ c r, x ++ [13, 10] = c :: r ∧ ((c.toNat : Int) = 46 ↔ hp x = true) := by
  cases x with
  | nil => exact ⟨13, [10], rfl, by simp [hp, Lib.hasPrefix]⟩
  | cons a t =>
    refine ⟨a, t ++ [13, 10], rfl, ?_⟩
    rw [show ((a.toNat : Int) = 46 ↔ a = 46) from u8_eq (n := 46) (by decide), hp_iff]
    constructor
    · intro h; exact ⟨t, by rw [h]⟩
    · rintro ⟨t', h⟩
      simp at h
      rw [h.1]
theorem head_rest {t : List UInt8} (h : t ≠ []) : ∃ c r, t = c :: r ∧ ((c.toNat : Int) = 46 ↔ hp t = true) := by
  cases t with
  | nil => exact absurd rfl h
  | cons a t =>
    refine ⟨a, t, rfl, ?_⟩
    rw [show ((a.toNat : Int) = 46 ↔ a = 46) from u8_eq (n := 46) (by decide), hp_iff]
    constructor
    · intro h; exact ⟨t, by rw [h]⟩
    · rintro ⟨t', h⟩
      simp at h
      rw [h.1]
theorem app_crlf {x : List UInt8} (h : x ++ [13, 10] = [46, 13, 10]) : x = [46] := by
  have h : x ++ [13, 10] = [46] ++ [13, 10] := h
  exact List.append_cancel_right h
/-- what is sent behind out -/
def stuffOn (out t : List UInt8) : List UInt8 × Int := if (cutL t).2 = [] then (out ++ joinL ((cutL t).1.map dot ++ [[46]]), 0) else ([], 4)
theorem stuffOn_step {out t x t' : List UInt8} (h : cutL t = (x :: (cutL t').1, (cutL t').2)) : stuffOn out t = stuffOn (out ++ (dot x ++ [13, 10])) t' := by
  unfold stuffOn
  rw [h]
  dsimp only
  split
  · congr 1
    simp [joinL, crlf]
  · rfl
set_option maxHeartbeats 1000000 in
theorem rstuff_any (w : World) (s : List UInt8) (hs : s.length ≤ 10000000) :
    Calls Try.prog 13 #[.string ⟨s.toArray⟩] w fun e w' => e = .returned (.tuple #[.string ⟨(stuffV s).1.toArray⟩, .int .i64 (stuffV s).2]) ∧ ∃ n, w' = w.drewN n := by
  obtain ⟨R, hR⟩ : ∃ R, stuffV s = R := ⟨_, rfl⟩
  rw [hR]
  go_enter Try.func13, Try.ntmps13
  go_wp2_with fail
  go_loopw [0, 4] (fun sv ov wr => ∃ (t out : List UInt8), sv = .string ⟨t.toArray⟩ ∧ ov = .string ⟨out.toArray⟩ ∧ stuffOn out t = R ∧ out.length + 2 * t.length ≤ 2 * s.length ∧ ∃ n, wr = w.drewN n) (fun sv _ _ => match sv with | .string b => b.size | _ => 0)
  case atStart => exact ⟨s, [], rfl, rfl, by rw [← hR]; rfl, by simp, 0, rfl⟩
  case round =>
    clear hR
    obtain ⟨t, out, rfl, rfl, hr, hl, n, rfl⟩ := hrel
    have HR := Lib.hid hr; clear hr
    by_cases ht : t = []
    · have hq : R = (out ++ [46, 13, 10], 0) := by rw [← HR.out, ht]; rfl
      have HQ := Lib.hid hq; clear hq
      have ht' : t.isEmpty = true := by simp [ht]
      subst ht
      go_wp2
      rw [HQ.out]
      go_ret2
      exact ⟨rfl, n, rfl⟩
    · have ht' : t.isEmpty = false := by simpa using ht
      have htl : 0 < t.length := List.length_pos_iff.2 ht
      go_wp2_with fail
      refine (next_any _ t (by omega)).mono ?_
      rintro e w2 ⟨⟨n2, rfl⟩, (⟨hc, rfl⟩ | ⟨x, t', hc, hsp, rfl⟩)⟩
      · have hq : R = ([], 4) := by rw [← HR.out]; unfold stuffOn; rw [hc]; exact if_neg ht
        have HQ := Lib.hid hq; clear hq hc
        go_wp2
        rw [HQ.out]
        go_ret2
        exact ⟨rfl, _, rfl⟩
      · have hs2 := stuffOn_step (out := out) hc
        rw [HR.out] at hs2
        have HS := Lib.hid hs2
        have hlen : t.length = x.length + 2 + t'.length := by rw [hsp]; simp; omega
        clear hc hsp hs2
        obtain ⟨c, r, hcr, hdot⟩ := head_dot x
        have hrl : r.length + 1 = x.length + 2 := by have := congrArg List.length hcr; simp at this; omega
        have hlb : (0 : Int) < ((r.length : Int) + 1) := by omega
        have HC := Lib.hid hcr
        have hdl := dot_len x
        have hol : out.length ≤ 100000000 := by omega
        have hrl2 : r.length ≤ 100000000 := by omega
        rw [hcr]
        clear hcr
        cases hh : hp x
        · have h46 : ¬ ((c.toNat : Int) = 46) := fun h => by rw [hdot.1 h] at hh; cases hh
          have h46' : ((c.toNat : Int) == 46) = false := by simpa using h46
          have HD : Hid (dot x ++ [13, 10] = c :: r) := by unfold Hid dot; rw [hh, ← HC.out]; rfl
          have HM := Lib.hid hlen
          clear hdot hh hlen hrl
          go_wp2
          go_roundw
          case rel =>
            have e1 := HS.out
            rw [HD.out] at e1
            have := congrArg List.length HC.out
            have h2 := HM.out
            exact ⟨t', out ++ c :: r, rfl, rfl, e1.symm, by simp at this ⊢; omega, _, rfl⟩
          case measure => have h2 := HM.out; simp [ByteArray.size]; omega
        · have h46 : ((c.toNat : Int) = 46) := hdot.2 hh
          have HD : Hid (dot x ++ [13, 10] = 46 :: c :: r) := by unfold Hid dot; rw [hh, ← HC.out]; rfl
          have HM := Lib.hid hlen
          clear hdot hh hlen hrl
          go_wp2
          go_roundw
          case rel =>
            have e1 := HS.out
            rw [HD.out] at e1
            have := congrArg List.length HC.out
            have h2 := HM.out
            exact ⟨t', out ++ 46 :: c :: r, rfl, by simp, e1.symm, by simp at this ⊢; omega, _, rfl⟩
          case measure => have h2 := HM.out; simp [ByteArray.size]; omega
set_option maxHeartbeats 1000000 in
theorem runstuff_any (w : World) (s : List UInt8) (hs : s.length ≤ 10000000) :
    Calls Try.prog 14 #[.string ⟨s.toArray⟩] w fun e w' => e = .returned (.tuple #[.string ⟨(unsV s).1.toArray⟩, .string ⟨(unsV s).2.1.toArray⟩, .int .i64 (unsV s).2.2]) ∧ ∃ n, w' = w.drewN n := by
  obtain ⟨R, hR⟩ : ∃ R, unsV s = R := ⟨_, rfl⟩
  rw [hR]
  go_enter Try.func14, Try.ntmps14
  go_wp2_with fail
  go_loopw [0, 5] (fun sv ov wr => ∃ (t out : List UInt8), sv = .string ⟨t.toArray⟩ ∧ ov = .string ⟨out.toArray⟩ ∧ uns out (cutL t).1 (cutL t).2 = R ∧ out.length + t.length ≤ s.length ∧ ∃ n, wr = w.drewN n) (fun sv _ _ => match sv with | .string b => b.size | _ => 0)
  case atStart => exact ⟨s, [], rfl, rfl, by rw [← hR]; rfl, by simp, 0, rfl⟩
  case round =>
    clear hR
    obtain ⟨t, out, rfl, rfl, hr, hl, n, rfl⟩ := hrel
    have HR := Lib.hid hr; clear hr
    go_wp2_with fail
    refine (next_any _ t (by omega)).mono ?_
    rintro e w2 ⟨⟨n2, rfl⟩, (⟨hc, rfl⟩ | ⟨x, t', hc, hsp, rfl⟩)⟩
    · have hq : R = ([], [], 8) := by rw [← HR.out, hc]; rfl
      have HQ := Lib.hid hq; clear hq hc
      go_wp2
      rw [HQ.out]
      go_returns
      exact ⟨rfl, _, rfl⟩
    · have hlen : t.length = x.length + 2 + t'.length := by rw [hsp]; simp; omega
      have hj := (cutL_join t').1
      have h0 := HR.out
      rw [hc] at h0
      have H0 := Lib.hid h0
      clear hc hsp h0
      by_cases hx : x = [46]
      · have hq : R = (out, t', 0) := by rw [← H0.out]; unfold uns; rw [if_pos hx, hj]
        have HQ := Lib.hid hq; clear hq hlen
        subst hx
        go_wp2
        rw [HQ.out]
        go_returns
        exact ⟨rfl, _, rfl⟩
      · have hne : (x ++ [13, 10] == [46, 13, 10]) = false := by
          rw [beq_eq_false_iff_ne]
          intro h
          exact hx (app_crlf h)
        obtain ⟨c, r, hcr, hdot⟩ := head_dot x
        have hrl : r.length + 1 = x.length + 2 := by have := congrArg List.length hcr; simp at this; omega
        have hlb : (0 : Int) < ((r.length : Int) + 1) := by omega
        have hol : out.length ≤ 100000000 := by omega
        have hrl2 : r.length ≤ 100000000 := by omega
        have HC := Lib.hid hcr
        rw [hcr] at hne ⊢
        cases hh : hp x
        · have h46 : ¬ ((c.toNat : Int) = 46) := fun h => by rw [hdot.1 h] at hh; cases hh
          have h46' : ((c.toNat : Int) == 46) = false := by simpa using h46
          have hs2 : uns (out ++ c :: r) (cutL t').1 (cutL t').2 = R := by
            rw [← H0.out, ← HC.out]
            conv => rhs; unfold uns
            rw [if_neg hx, hh]
            rfl
          have HS := Lib.hid hs2
          have HM := Lib.hid hlen
          clear hdot hh hlen hs2 hcr
          go_wp2
          go_roundw
          case rel =>
            have h2 := HM.out
            exact ⟨t', out ++ c :: r, rfl, rfl, HS.out, by simp; omega, _, rfl⟩
          case measure => have h2 := HM.out; simp [ByteArray.size]; omega
        · have h46 : ((c.toNat : Int) = 46) := hdot.2 hh
          obtain ⟨y, hy⟩ := (hp_iff x).1 hh
          have hr2 : r = y ++ [13, 10] := by rw [hy] at hcr; simp at hcr; exact hcr.2.symm
          obtain ⟨c2, r2, hcr2, hdot2⟩ := head_dot y
          rw [hcr2] at hr2
          have hrl3 : r2.length ≤ 100000000 := by rw [hr2] at hrl2; simp at hrl2; omega
          have hlb2 : (1 : Int) < ((r2.length : Int) + 1 + 1) := by omega
          have hlb3 : (1 : Int) ≤ ((r2.length : Int) + 1 + 1) := by omega
          subst hr2
          cases hh2 : hp y
          · have h462 : ((c2.toNat : Int) != 46) = true := by
              simp
              intro h
              rw [hdot2.1 h] at hh2; cases hh2
            have hq : R = ([], [], 4) := by
              rw [← H0.out]
              conv => lhs; unfold uns
              rw [if_neg hx, if_pos hh, hy, List.tail_cons, hh2]
              rfl
            have HQ := Lib.hid hq
            clear hdot hdot2 hh hh2 hlen hcr hcr2 hy hq
            go_wp2
            rw [HQ.out]
            go_returns
            exact ⟨rfl, _, rfl⟩
          · have h462 : ((c2.toNat : Int) != 46) = false := by
              simp
              exact hdot2.2 hh2
            have hs2 : uns (out ++ c2 :: r2) (cutL t').1 (cutL t').2 = R := by
              rw [← H0.out, ← hcr2]
              conv => rhs; unfold uns
              rw [if_neg hx, if_pos hh, hy, List.tail_cons, if_pos hh2]
            have HS := Lib.hid hs2
            have HM := Lib.hid hlen
            clear hdot hdot2 hh hh2 hlen hs2 hcr hcr2 hy
            go_wp2
            go_roundw
            case rel =>
              have h2 := HM.out
              exact ⟨t', out ++ c2 :: r2, rfl, rfl, HS.out, by simp; simp at hrl; omega, _, rfl⟩
            case measure => have h2 := HM.out; simp [ByteArray.size]; omega
theorem linesB_none {t : List UInt8} (h : cutL t = ([], t)) (ht : t ≠ []) : linesB t = [(t, false)] := by unfold linesB; rw [h]; simp [ht]
theorem linesB_some {t x t' : List UInt8} (h : cutL t = (x :: (cutL t').1, (cutL t').2)) : linesB t = (x, true) :: linesB t' := by unfold linesB; rw [h]; simp
set_option maxHeartbeats 1000000 in
theorem rdots_any (w : World) (s : List UInt8) (hs : s.length ≤ 10000000) :
    Calls Try.prog 15 #[.string ⟨s.toArray⟩] w fun e w' => e = .returned (.int .i64 (dotsN (linesB s) : Nat)) ∧ ∃ n, w' = w.drewN n := by
  obtain ⟨R, hR⟩ : ∃ R, dotsN (linesB s) = R := ⟨_, rfl⟩
  rw [hR]
  go_enter Try.func15, Try.ntmps15
  go_wp2_with fail
  go_loopw [0, 3] (fun sv ov wr => ∃ (t : List UInt8) (d : Nat), sv = .string ⟨t.toArray⟩ ∧ ov = .int .i64 d ∧ d + dotsN (linesB t) = R ∧ d + t.length ≤ s.length ∧ ∃ n, wr = w.drewN n) (fun sv _ _ => match sv with | .string b => b.size | _ => 0)
  case atStart => exact ⟨s, 0, rfl, rfl, by rw [← hR]; simp, by simp, 0, rfl⟩
  case round =>
    clear hR
    obtain ⟨t, d, rfl, rfl, hr, hl, n, rfl⟩ := hrel
    have HR := Lib.hid hr; clear hr
    by_cases ht : t = []
    · have hq : R = d := by rw [← HR.out, ht]; rfl
      have ht' : t.isEmpty = true := by simp [ht]
      subst ht
      have HQ := Lib.hid hq; clear hq
      go_wp2
      go_ret
      exact ⟨by rw [HQ.out]; rfl, n, rfl⟩
    · have ht' : t.isEmpty = false := by simpa using ht
      have htl : 0 < t.length := List.length_pos_iff.2 ht
      have hw1 : IntKind.i64.wrap ((d : Int) + 1) = (d : Int) + 1 := IntWalk.i64_in _ (by omega)
      go_wp2_with fail
      refine (next_any _ t (by omega)).mono ?_
      rintro e w2 ⟨⟨n2, rfl⟩, (⟨hc, rfl⟩ | ⟨x, t', hc, hsp, rfl⟩)⟩
      · have hr := HR.out
        rw [linesB_none hc ht] at hr
        obtain ⟨c, r, hcr, hdot⟩ := head_rest ht
        have hlb : (0 : Int) < ((r.length : Int) + 1) := by omega
        cases hh : hp t
        · have h46 : ¬ ((c.toNat : Int) = 46) := fun h => by rw [hdot.1 h] at hh; cases hh
          have h46' : ((c.toNat : Int) == 46) = false := by simpa using h46
          have hs2 : d + dotsN (linesB []) = R := by rw [← hr]; simp [dotsN, hh, linesB, cutL]
          have HS := Lib.hid hs2
          clear hdot hh hs2 hr hc HR ht ht'
          subst hcr
          go_wp2
          go_roundw
          case rel => exact ⟨[], d, rfl, rfl, HS.out, by simp at hl ⊢; omega, _, rfl⟩
          case measure => simp [ByteArray.size]
        · have h46 : ((c.toNat : Int) = 46) := hdot.2 hh
          have hs2 : d + 1 + dotsN (linesB []) = R := by rw [← hr]; simp [dotsN, hh, linesB, cutL]
          have HS := Lib.hid hs2
          clear hdot hh hs2 hr hc HR ht ht'
          subst hcr
          go_wp2
          go_roundw
          case rel => exact ⟨[], d + 1, rfl, by go_num, HS.out, by simp at hl ⊢; omega, _, rfl⟩
          case measure => simp [ByteArray.size]
      · have hr := HR.out
        rw [linesB_some hc] at hr
        have hlen : t.length = x.length + 2 + t'.length := by rw [hsp]; simp; omega
        obtain ⟨c, r, hcr, hdot⟩ := head_dot x
        have hlb : (0 : Int) < ((r.length : Int) + 1) := by omega
        have HM := Lib.hid hlen
        rw [hcr]
        cases hh : hp x
        · have h46 : ¬ ((c.toNat : Int) = 46) := fun h => by rw [hdot.1 h] at hh; cases hh
          have h46' : ((c.toNat : Int) == 46) = false := by simpa using h46
          have hs2 : d + dotsN (linesB t') = R := by rw [← hr]; simp [dotsN, hh]
          have HS := Lib.hid hs2
          clear hdot hh hs2 hr hc HR hsp hlen hcr
          go_wp2
          go_roundw
          case rel => have h2 := HM.out; exact ⟨t', d, rfl, rfl, HS.out, by omega, _, rfl⟩
          case measure => have h2 := HM.out; simp [ByteArray.size]; omega
        · have h46 : ((c.toNat : Int) = 46) := hdot.2 hh
          have hs2 : d + 1 + dotsN (linesB t') = R := by rw [← hr]; simp [dotsN, hh]; omega
          have HS := Lib.hid hs2
          clear hdot hh hs2 hr hc HR hsp hlen hcr
          go_wp2
          go_roundw
          case rel => have h2 := HM.out; exact ⟨t', d + 1, rfl, by go_num, HS.out, by omega, _, rfl⟩
          case measure => have h2 := HM.out; simp [ByteArray.size]; omega
set_option maxHeartbeats 1000000 in
theorem rwhole_any (w : World) (s : List UInt8) (hs : s.length ≤ 10000000) :
    Calls Try.prog 16 #[.string ⟨s.toArray⟩] w fun e w' => e = .returned (.bool (wholeB (linesB s))) ∧ ∃ n, w' = w.drewN n := by
  obtain ⟨R, hR⟩ : ∃ R, wholeB (linesB s) = R := ⟨_, rfl⟩
  rw [hR]
  go_enter Try.func16, Try.ntmps16
  go_wp2_with fail
  go_loopw [0] (fun sv wr => ∃ (t : List UInt8), sv = .string ⟨t.toArray⟩ ∧ wholeB (linesB t) = R ∧ t.length ≤ s.length ∧ ∃ n, wr = w.drewN n) (fun sv _ => match sv with | .string b => b.size | _ => 0)
  case atStart => exact ⟨s, rfl, hR, by simp, 0, rfl⟩
  case round =>
    clear hR
    obtain ⟨t, rfl, hr, hl, n, rfl⟩ := hrel
    have HR := Lib.hid hr; clear hr
    by_cases ht : t = []
    · have hq : R = false := by rw [← HR.out, ht]; rfl
      have ht' : t.isEmpty = true := by simp [ht]
      subst ht
      have HQ := Lib.hid hq; clear hq
      go_wp2
      go_ret
      exact ⟨by rw [HQ.out]; rfl, n, rfl⟩
    · have ht' : t.isEmpty = false := by simpa using ht
      have htl : 0 < t.length := List.length_pos_iff.2 ht
      go_wp2_with fail
      refine (next_any _ t (by omega)).mono ?_
      rintro e w2 ⟨⟨n2, rfl⟩, (⟨hc, rfl⟩ | ⟨x, t', hc, hsp, rfl⟩)⟩
      · have hr := HR.out
        rw [linesB_none hc ht] at hr
        have hs2 : wholeB (linesB []) = R := by rw [← hr]; rfl
        have HS := Lib.hid hs2
        clear hs2 hr hc HR
        go_wp2
        go_roundw
        case rel => exact ⟨[], rfl, HS.out, by simp, _, rfl⟩
        case measure => simp [ByteArray.size]; omega
      · have hr := HR.out
        rw [linesB_some hc] at hr
        have hlen : t.length = x.length + 2 + t'.length := by rw [hsp]; simp; omega
        have HM := Lib.hid hlen
        by_cases hx : x = [46]
        · have hq : R = true := by rw [← hr, hx]; rfl
          have HQ := Lib.hid hq
          clear hq hr hc HR hsp hlen
          subst hx
          go_wp2
          go_ret
          exact ⟨by rw [HQ.out]; rfl, _, rfl⟩
        · have hne : (x ++ [13, 10] == [46, 13, 10]) = false := by
            rw [beq_eq_false_iff_ne]
            intro h
            exact hx (app_crlf h)
          have hs2 : wholeB (linesB t') = R := by rw [← hr]; unfold wholeB; simp [hx]
          have HS := Lib.hid hs2
          clear hs2 hr hc HR hsp hlen hx
          go_wp2
          go_roundw
          case rel => have h2 := HM.out; exact ⟨t', rfl, HS.out, by omega, _, rfl⟩
          case measure => have h2 := HM.out; simp [ByteArray.size]; omega
end Go.Proofs.Ytknellgmdmpabaa
