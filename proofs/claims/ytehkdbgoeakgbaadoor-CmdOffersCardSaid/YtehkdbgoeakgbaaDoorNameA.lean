/- name: strings.Cut at a dot; label. -/
import Derived.Test.YtehkdbgoeakgbaaDoorNamePlain
import Derived.Test.YtehkdbgoeakgbaaDoorAdShelf
import Derived.Test.YtehkdbgoeakgbaaDoorRange
import Derived.Outline
import Derived.ScopeJumps
import Derived.WalkMore
import Derived.Handy
import Derived.BigQuiet
import Derived.Deep.QuietTactic
namespace Go.Proofs.YtehkdbgoeakgbaaDoor
set_option linter.all false
open Go.RowKit

theorem cutlite_any (l : List UInt8) (w : World) (hs : l.length ≤ 1000000000) :
    Calls Tryd.prog 70 #[.string ⟨l.toArray⟩, .string ⟨#[46]⟩] w fun e w' => e = .returned (.tuple #[.string ⟨(hd46 l).toArray⟩, .string ⟨(tl46 l).toArray⟩, .bool (has46 l)]) ∧ Chg [] w w' := by
  rcases dot_place l with ⟨h, hn⟩ | ⟨o, h1, h2, h3, h4, h5⟩
  · obtain ⟨e1, e2, e3⟩ := hd46_none hn
    rw [e1, e2, e3]
    clear e1 e2 e3 hn
    generalize hi : Lib.indexByte l 46 = i at h
    have HI := Lib.hid hi; clear hi
    go_enter Tryd.func70, Tryd.ntmps70
    go_wp2_with fail
    refine (Tryd.stringslite_Index_one ⟨l.toArray⟩ 46 _).mono ?_
    rw [HI.out]
    rintro e w' ⟨rfl, rfl⟩
    go_wp2_with fail
    go_returns
    exact ⟨rfl, Chg.refl _ _⟩
  · rw [h5]
    have H2 := Lib.hid h2; have H3 := Lib.hid h3; have H4 := Lib.hid h4
    clear h2 h3 h4 h5
    have ho : (0 : Int) ≤ (o : Int) := by omega
    have h1' : (o : Int) < (l.length : Int) := by omega
    have s1 : IntKind.i64.wrap ((o : Int) + 1) = (o : Int) + 1 := IntWalk.i64_in _ (by omega)
    go_enter Tryd.func70, Tryd.ntmps70
    go_wp2_with fail
    refine (Tryd.stringslite_Index_one ⟨l.toArray⟩ 46 _).mono ?_
    rw [H2.out]
    rintro e w' ⟨rfl, rfl⟩
    clear s1
    go_wp2_with fail
    go_quiet (fail)
    go_wp2_with fail
    rw [H3.out, H4.out]
    go_returns
    exact ⟨rfl, (Chg.refl _ _).drewN _⟩
theorem cutdot_any (l : List UInt8) (w : World) (hs : l.length ≤ 1000000000) :
    Calls Tryd.prog 55 #[.string ⟨l.toArray⟩, .string ⟨#[46]⟩] w fun e w' => e = .returned (.tuple #[.string ⟨(hd46 l).toArray⟩, .string ⟨(tl46 l).toArray⟩, .bool (has46 l)]) ∧ Chg [] w w' := by
  go_enter Tryd.func55, Tryd.ntmps55
  go_wp2_with fail
  refine (cutlite_any l _ hs).mono ?_
  rintro e w' ⟨rfl, ch⟩
  go_wp2_with fail
  go_returns
  exact ⟨rfl, ch⟩

theorem dig_true {c : UInt8} (h : 48 ≤ (c.toNat : Int) ∧ (c.toNat : Int) ≤ 57) : dig c = true := by simp only [dig, decide_eq_true_eq]; omega
theorem dig_false {c : UInt8} (h : ¬ (48 ≤ (c.toNat : Int) ∧ (c.toNat : Int) ≤ 57)) : dig c = false := by simp only [dig, decide_eq_false_iff_not]; omega
theorem all_snoc {p : UInt8 → Bool} {l : List UInt8} {k : Nat} (h : k < l.length) (ha : (l.take k).all p = true) (hp : p l[k] = true) : (l.take (k + 1)).all p = true := by
  rw [List.take_succ_eq_append_getElem h, List.all_append, ha]; simp [hp]
theorem all_step {p : UInt8 → Bool} {l : List UInt8} {k : Nat} (h : k < l.length) : (l.take (k + 1)).all p = ((l.take k).all p && p l[k]) := by
  rw [List.take_succ_eq_append_getElem h, List.all_append]; simp
theorem all_not {p : UInt8 → Bool} {l : List UInt8} {k : Nat} (h : k < l.length) (hp : p l[k] = false) : l.all p = false := by
  rw [List.all_eq_false]; exact ⟨l[k], List.getElem_mem h, by simp [hp]⟩
theorem getD_lt (l : List UInt8) (k : Nat) (h : k < l.length) : l.getD k 0 = l[k] := by simp [h]
theorem lab_or (c : UInt8) : (lab c = true ∧ dig c = true ∧ 48 ≤ (c.toNat : Int) ∧ (c.toNat : Int) ≤ 57) ∨ (lab c = true ∧ dig c = false ∧ 57 < (c.toNat : Int) ∧ 97 ≤ (c.toNat : Int) ∧ (c.toNat : Int) ≤ 122) ∨ (lab c = true ∧ dig c = false ∧ (c.toNat : Int) = 45) ∨
    (lab c = false ∧ (c.toNat : Int) < 48 ∧ ¬ (c.toNat : Int) = 45) ∨ (lab c = false ∧ 57 < (c.toNat : Int) ∧ (c.toNat : Int) < 97) ∨ (lab c = false ∧ 122 < (c.toNat : Int)) := by
  unfold lab dig
  simp only [Bool.or_eq_true, decide_eq_true_eq, Bool.or_eq_false_iff, decide_eq_false_iff_not]
  omega
def labelV (l : List UInt8) : Value := .tuple #[.bool (labelOk l), .bool (labelOk l && l.all dig)]
theorem labelOk_no {l : List UInt8} (h : ¬ (1 ≤ l.length ∧ l.length ≤ 63 ∧ ¬ (l.getD 0 0).toNat = 45 ∧ ¬ (l.getD (l.length - 1) 0).toNat = 45)) : labelOk l = false := by
  unfold labelOk; rw [decide_eq_false h]; rfl
/-- what holds where label jumps to its end -/
def LabelNo (l : List UInt8) (w : World) (a : Act) (w' : World) : Prop := labelOk l = false ∧ w' = w ∧ ∃ t0 t1 t2 t3 t4 t5 t6 t7 t8 t9 t10 t11 t12 t13 t14 t15 t16 t17 t18 t19 t20 t21 t22 t23 t24 t25 t26 t27 t28 t29 t30 t31 t32 t33 t34 t35 t36 t37 t38 t39 t40 t41 t42 t43 t44 t45 t46 t47 t48 t49 t50 t51 t52 : Value, a = { tmps := #[t0, t1, t2, t3, t4, t5, t6, t7, t8, t9, t10, t11, t12, t13, t14, t15, t16, t17, t18, t19, t20, t21, t22, t23, t24, t25, t26, t27, t28, t29, t30, t31, t32, t33, t34, t35, t36, t37, t38, t39, t40, t41, t42, t43, t44, t45, t46, t47, t48, t49, t50, t51, t52], defers := [] }
theorem labelNo {l : List UInt8} {w : World} (t0 t1 t2 t3 t4 t5 t6 t7 t8 t9 t10 t11 t12 t13 t14 t15 t16 t17 t18 t19 t20 t21 t22 t23 t24 t25 t26 t27 t28 t29 t30 t31 t32 t33 t34 t35 t36 t37 t38 t39 t40 t41 t42 t43 t44 t45 t46 t47 t48 t49 t50 t51 t52 : Value) (h : labelOk l = false) : LabelNo l w { tmps := #[t0, t1, t2, t3, t4, t5, t6, t7, t8, t9, t10, t11, t12, t13, t14, t15, t16, t17, t18, t19, t20, t21, t22, t23, t24, t25, t26, t27, t28, t29, t30, t31, t32, t33, t34, t35, t36, t37, t38, t39, t40, t41, t42, t43, t44, t45, t46, t47, t48, t49, t50, t51, t52], defers := [] } w := ⟨h, rfl, _, _, _, _, _, _, _, _, _, _, _, _, _, _, _, _, _, _, _, _, _, _, _, _, _, _, _, _, _, _, _, _, _, _, _, _, _, _, _, _, _, _, _, _, _, _, _, _, _, _, _, _, _, rfl⟩
set_option maxHeartbeats 1000000 in
theorem label_any (l : List UInt8) (w : World) (hs : l.length ≤ 1000000000) :
    Calls Tryd.prog 59 #[.string ⟨l.toArray⟩] w fun e w' => e = .returned (labelV l) ∧ w = w' := by
  go_enter Tryd.func59, Tryd.ntmps59
  go_wp2
  refine wp_scope_jumps 0 (LabelNo l w) (fun _ _ => 0) rfl ?first ?pass
  case pass =>
    rintro a w1 ⟨h, rfl, t0, t1, t2, t3, t4, t5, t6, t7, t8, t9, t10, t11, t12, t13, t14, t15, t16, t17, t18, t19, t20, t21, t22, t23, t24, t25, t26, t27, t28, t29, t30, t31, t32, t33, t34, t35, t36, t37, t38, t39, t40, t41, t42, t43, t44, t45, t46, t47, t48, t49, t50, t51, t52, rfl⟩
    have H := Lib.hid h; clear h
    go_wp2
    simp only [Exit.jump]
    go_ret2
    exact ⟨by rw [labelV, H.out]; rfl, rfl⟩
  case first =>
    by_cases h1 : l.length < 1
    · have h1' : decide ((l.length : Int) < 1) = true := by simp; omega
      have E := Lib.hid (labelOk_no (l := l) (by omega))
      go_wp2
      refine wp_goto ⟨rfl, labelNo _ _ _ _ _ _ _ _ _ _ _ _ _ _ _ _ _ _ _ _ _ _ _ _ _ _ _ _ _ _ _ _ _ _ _ _ _ _ _ _ _ _ _ _ _ _ _ _ _ _ _ _ _ E.out⟩
    have h1' : decide ((l.length : Int) < 1) = false := by simp; omega
    by_cases h2 : 63 < l.length
    · have h2' : decide ((63 : Int) < (l.length : Int)) = true := by simp; omega
      have E := Lib.hid (labelOk_no (l := l) (by omega))
      go_wp2
      refine wp_goto ⟨rfl, labelNo _ _ _ _ _ _ _ _ _ _ _ _ _ _ _ _ _ _ _ _ _ _ _ _ _ _ _ _ _ _ _ _ _ _ _ _ _ _ _ _ _ _ _ _ _ _ _ _ _ _ _ _ _ E.out⟩
    have h2' : decide ((63 : Int) < (l.length : Int)) = false := by simp; omega
    have l0 : 0 < l.length := by omega
    have g0 := Lib.hid (getD_lt l 0 l0)
    have gl := Lib.hid (getD_lt l (l.length - 1) (by omega))
    by_cases h3 : (l[0].toNat : Int) = 45
    · have h3' : ((l[0].toNat : Int) == 45) = true := by simp [h3]
      have E := Lib.hid (labelOk_no (l := l) (by rw [g0.out]; omega))
      clear h3
      go_wp2
      refine wp_goto ⟨rfl, labelNo _ _ _ _ _ _ _ _ _ _ _ _ _ _ _ _ _ _ _ _ _ _ _ _ _ _ _ _ _ _ _ _ _ _ _ _ _ _ _ _ _ _ _ _ _ _ _ _ _ _ _ _ _ E.out⟩
    have h3' : ((l[0].toNat : Int) == 45) = false := by simpa using h3
    have q1 : (l.length : Int) - 1 < (l.length : Int) := by omega
    have q2 : 0 ≤ (l.length : Int) - 1 := by omega
    have q3 : ((l.length : Int) - 1).toNat = l.length - 1 := by omega
    have q4 : l.length - 1 < l.length := by omega
    by_cases h4 : ((l[l.length - 1]'q4).toNat : Int) = 45
    · have h4' : (((l[l.length - 1]'q4).toNat : Int) == 45) = true := by simp [h4]
      have E := Lib.hid (labelOk_no (l := l) (by rw [gl.out]; omega))
      clear h3 h4
      go_wp2
      refine wp_goto ⟨rfl, labelNo _ _ _ _ _ _ _ _ _ _ _ _ _ _ _ _ _ _ _ _ _ _ _ _ _ _ _ _ _ _ _ _ _ _ _ _ _ _ _ _ _ _ _ _ _ _ _ _ _ _ _ _ _ E.out⟩
    have h4' : (((l[l.length - 1]'q4).toNat : Int) == 45) = false := by simpa using h4
    have EE : Hid (labelOk l = l.all lab) := by
      unfold Hid labelOk
      rw [decide_eq_true (by rw [g0.out, gl.out]; omega)]; rfl
    clear h3 h4 q1 q2 q3
    have q1 : (l.length : Int) - 1 < (l.length : Int) := by omega
    have q2 : 0 ≤ (l.length : Int) - 1 := by omega
    have q3 : ((l.length : Int) - 1).toNat = l.length - 1 := by omega
    go_wp2
    go_loop [3, 29] (fun dv i => ∃ (k : Nat) (b : Bool), k ≤ l.length ∧ i = .int .i64 k ∧ dv = .bool b ∧ (l.take k).all lab = true ∧ (l.take k).all dig = b) (fun _ i => l.length - (intOf i).toNat)
    case atStart => exact ⟨0, true, by omega, rfl, rfl, rfl, rfl⟩
    case round =>
      obtain ⟨k, b, hk, rfl, rfl, ha, hd⟩ := hrel
      have HA := Lib.hid ha; have HD := Lib.hid hd
      clear ha hd
      by_cases hlt : k < l.length
      · have hb1 : (k : Int) < (l.length : Int) := by omega
        rcases lab_or l[k] with ⟨e1, e2, c1, c2⟩ | ⟨e1, e2, c1, c2, c3⟩ | ⟨e1, e2, c1⟩ | ⟨e1, c1, c2⟩ | ⟨e1, c1, c2⟩ | ⟨e1, c1⟩
        · have E1 := Lib.hid e1; have E2 := Lib.hid e2; clear e1 e2
          go_wp2
          go_round
          case rel => exact ⟨k + 1, b, by omega, by go_num, rfl, all_snoc hlt HA.out E1.out, by rw [all_step hlt, HD.out, E2.out]; simp⟩
          case measure => simp [intOf]; omega
        · have E1 := Lib.hid e1; have E2 := Lib.hid e2; clear e1 e2
          go_wp2
          go_round
          case rel => exact ⟨k + 1, false, by omega, by go_num, rfl, all_snoc hlt HA.out E1.out, by rw [all_step hlt, E2.out]; simp⟩
          case measure => simp [intOf]; omega
        · have E1 := Lib.hid e1; have E2 := Lib.hid e2; clear e1 e2
          have c1' : ((l[k].toNat : Int) == 45) = true := by simp [c1]
          have c2' : (l[k].toNat : Int) < 48 := by omega
          go_wp2
          go_round
          case rel => exact ⟨k + 1, false, by omega, by go_num, rfl, all_snoc hlt HA.out E1.out, by rw [all_step hlt, E2.out]; simp⟩
          case measure => simp [intOf]; omega
        all_goals
          have EN : Hid (labelOk l = false) := by unfold Hid; rw [EE.out]; exact all_not hlt e1
          clear e1
          first
          | have c2' : ((l[k].toNat : Int) == 45) = false := by simp; omega
          | skip
          go_wp2
          all_goals first
          | exact wp_goto ⟨rfl, labelNo _ _ _ _ _ _ _ _ _ _ _ _ _ _ _ _ _ _ _ _ _ _ _ _ _ _ _ _ _ _ _ _ _ _ _ _ _ _ _ _ _ _ _ _ _ _ _ _ _ _ _ _ _ EN.out⟩
          | (exfalso; rename_i hx; simp at hx; omega)
          | go_goals
      · go_wp2
        simp only [Exit.jump]
        go_ret2
        obtain rfl : k = l.length := by omega
        have h1 := HA.out; have h2 := HD.out
        rw [List.take_length] at h1 h2
        exact ⟨by rw [labelV, EE.out, h1, h2]; rfl, rfl⟩
end Go.Proofs.YtehkdbgoeakgbaaDoor
