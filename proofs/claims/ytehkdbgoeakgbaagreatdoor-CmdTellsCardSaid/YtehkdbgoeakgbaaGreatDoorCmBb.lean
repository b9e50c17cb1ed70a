/- merged: NamePlain NameA NameB NameC AdFold AdA (wip/merge.py) -/
import Derived.Lib.IndexLaws
import Derived.Lib.Strings
import Derived.Lib.IndexMore
import Derived.Test.YtehkdbgoeakgbaaGreatDoorAdShelf
import Derived.Test.YtehkdbgoeakgbaaGreatDoorCmBa
import Derived.Outline
import Derived.ScopeJumps
import Derived.WalkMore
import Derived.Handy
import Derived.BigQuiet
import Derived.Deep.QuietTactic
/- Names, in plain: labels, whether a text is a name. -/
namespace Go.Proofs.YtehkdbgoeakgbaaGreatDoor
set_option linter.all false

/-- a text cut at its dots -/
def cut46 : List UInt8 → List (List UInt8)
  | [] => [[]]
  | c :: t => if c = 46 then [] :: cut46 t else match cut46 t with
    | [] => [[c]]
    | h :: r => (c :: h) :: r
theorem cut46_ne (l : List UInt8) : cut46 l ≠ [] := by
  cases l with
  | nil => simp [cut46]
  | cons c t =>
    unfold cut46
    split
    · simp
    · split <;> simp
theorem cut46_dot {a : List UInt8} (h : 46 ∉ a) (b : List UInt8) : cut46 (a ++ 46 :: b) = a :: cut46 b := by
  induction a with
  | nil => simp [cut46]
  | cons c t ih =>
    simp only [List.mem_cons, not_or] at h
    have hc : ¬ c = 46 := fun e => h.1 e.symm
    rw [List.cons_append, cut46, if_neg hc, ih h.2]
theorem cut46_one {a : List UInt8} (h : 46 ∉ a) : cut46 a = [a] := by
  induction a with
  | nil => rfl
  | cons c t ih =>
    simp only [List.mem_cons, not_or] at h
    have hc : ¬ c = 46 := fun e => h.1 e.symm
    rw [cut46, if_neg hc, ih h.2]
theorem cut46_cons {l p : List UInt8} {r : List (List UInt8)} (h : cut46 l = p :: r) : 46 ∉ p ∧ ((r = [] ∧ l = p) ∨ ∃ b, l = p ++ 46 :: b ∧ cut46 b = r) := by
  induction l generalizing p r with
  | nil => simp [cut46] at h; obtain ⟨rfl, rfl⟩ := h; simp
  | cons c t ih =>
    rw [cut46] at h
    split at h
    · rename_i hc
      simp at h
      obtain ⟨rfl, rfl⟩ := h
      exact ⟨by simp, .inr ⟨t, by simp [hc], rfl⟩⟩
    · rename_i hc
      cases e : cut46 t with
      | nil => exact absurd e (cut46_ne t)
      | cons q s =>
        rw [e] at h
        simp only [List.cons.injEq] at h
        obtain ⟨rfl, rfl⟩ := h
        obtain ⟨h1, h2⟩ := ih e
        refine ⟨by simp [h1]; exact fun e => hc e.symm, ?_⟩
        rcases h2 with ⟨rfl, rfl⟩ | ⟨b, rfl, rfl⟩
        · exact .inl ⟨rfl, rfl⟩
        · exact .inr ⟨b, rfl, rfl⟩

def hd46 (l : List UInt8) : List UInt8 := l.takeWhile (fun c => decide (c ≠ 46))
def tl46 (l : List UInt8) : List UInt8 := l.drop ((hd46 l).length + 1)
def has46 (l : List UInt8) : Bool := l.contains 46
theorem hd46_of {a b : List UInt8} (h : 46 ∉ a) : hd46 (a ++ 46 :: b) = a ∧ tl46 (a ++ 46 :: b) = b ∧ has46 (a ++ 46 :: b) = true := by
  have e : hd46 (a ++ 46 :: b) = a := by
    unfold hd46
    rw [List.takeWhile_append_of_pos (by intro c hc; simp; rintro rfl; exact h hc)]
    simp
  refine ⟨e, ?_, by simp [has46]⟩
  unfold tl46; rw [e]; simp
theorem hd46_none {a : List UInt8} (h : 46 ∉ a) : hd46 a = a ∧ tl46 a = [] ∧ has46 a = false := by
  have e : hd46 a = a := by
    have := List.takeWhile_append_of_pos (l₁ := a) (l₂ := []) (p := fun c : UInt8 => decide (c ≠ 46)) (by intro c hc; simp; rintro rfl; exact h hc)
    simpa [hd46] using this
  exact ⟨e, by unfold tl46; rw [e]; simp, by simp [has46, h]⟩
theorem cut46_eq (l : List UInt8) : cut46 l = if has46 l then hd46 l :: cut46 (tl46 l) else [l] := by
  cases e : cut46 l with
  | nil => exact absurd e (cut46_ne l)
  | cons p r =>
    obtain ⟨h1, h2⟩ := cut46_cons e
    rcases h2 with ⟨rfl, rfl⟩ | ⟨b, rfl, rfl⟩
    · obtain ⟨_, _, h5⟩ := hd46_none h1
      rw [h5]; rfl
    · obtain ⟨h3, h4, h5⟩ := hd46_of (b := b) h1
      rw [h3, h4, h5]; rfl
theorem tl46_len {l : List UInt8} (h : has46 l = true) : (tl46 l).length < l.length := by
  cases l with
  | nil => simp [has46] at h
  | cons c t => unfold tl46; simp; omega
theorem tl46_le (l : List UInt8) : (tl46 l).length ≤ l.length := by unfold tl46; simp
theorem hd46_le (l : List UInt8) : (hd46 l).length ≤ l.length := by
  unfold hd46; exact (List.takeWhile_sublist _).length_le
/-- what is found of a dot, by place -/
theorem dot_place (l : List UInt8) : (Lib.indexByte l 46 < 0 ∧ 46 ∉ l) ∨ ∃ o : Nat, o < l.length ∧ Lib.indexByte l 46 = o ∧ l.take o = hd46 l ∧ l.drop (o + 1) = tl46 l ∧ has46 l = true := by
  by_cases h : Lib.indexByte l 46 = -1
  · left
    refine ⟨by omega, fun hm => ?_⟩
    obtain ⟨k, hk, e⟩ := List.mem_iff_getElem.1 hm
    exact Lib.indexByte_none h k (by rw [List.getElem?_eq_getElem hk, e])
  · right
    have hg := Lib.indexByte_ge l 46
    obtain ⟨o, ho⟩ : ∃ o : Nat, Lib.indexByte l 46 = o := ⟨(Lib.indexByte l 46).toNat, by omega⟩
    obtain ⟨h1, h2⟩ := Lib.indexByte_some ho
    have hlt : o < l.length := by
      rcases Nat.lt_or_ge o l.length with h' | h'
      · exact h'
      · rw [List.getElem?_eq_none h'] at h1; cases h1
    have e : l = l.take o ++ 46 :: l.drop (o + 1) := by
      have h3 : l[o] = 46 := by rw [List.getElem?_eq_getElem hlt] at h1; simpa using h1
      have := (List.take_append_drop o l).symm
      rw [List.drop_eq_getElem_cons hlt, h3] at this
      exact this
    have hn : 46 ∉ l.take o := by
      intro hm
      obtain ⟨k, hk, hx⟩ := List.mem_iff_getElem.1 hm
      have hko : k < o := by simp at hk; omega
      refine h2 k hko ?_
      rw [List.getElem_take] at hx
      rw [List.getElem?_eq_getElem (by omega), hx]
    obtain ⟨p1, p2, p3⟩ := hd46_of (b := l.drop (o + 1)) hn
    rw [← e] at p1 p2 p3
    exact ⟨o, hlt, ho, p1.symm, p2.symm, p3⟩

/-- the text from the k-th label on -/
def sfx (l : List UInt8) : Nat → List UInt8
  | 0 => l
  | k + 1 => tl46 (sfx l k)
theorem sfx_le (l : List UInt8) (k : Nat) : (sfx l k).length ≤ l.length := by
  induction k with
  | zero => exact Nat.le_refl _
  | succ k ih => exact Nat.le_trans (tl46_le _) ih
theorem sfx_cut (l : List UInt8) : ∀ k, k < (cut46 l).length → cut46 (sfx l k) = (cut46 l).drop k := by
  intro k
  induction k with
  | zero => intro _; rfl
  | succ k ih =>
    intro h
    have h1 := ih (by omega)
    rw [cut46_eq] at h1
    split at h1
    · have := congrArg (List.drop 1) h1
      simpa [sfx] using this
    · have := congrArg List.length h1
      simp at this; omega
theorem sfx_at (l : List UInt8) (k : Nat) (h : k < (cut46 l).length) : hd46 (sfx l k) = (cut46 l)[k] ∧ has46 (sfx l k) = decide (k + 1 < (cut46 l).length) := by
  have h1 := sfx_cut l k h
  rw [List.drop_eq_getElem_cons h, cut46_eq] at h1
  split at h1
  · rename_i hh
    simp only [List.cons.injEq] at h1
    refine ⟨h1.1, ?_⟩
    rw [hh]; symm; rw [decide_eq_true_eq]
    have h2 := h1.2
    rcases Nat.lt_or_ge (k + 1) (cut46 l).length with h' | h'
    · exact h'
    · rw [List.drop_eq_nil_of_le h'] at h2; exact absurd h2 (cut46_ne _)
  · rename_i hh
    simp only [List.cons.injEq] at h1
    have hn : 46 ∉ sfx l k := by simpa [has46] using hh
    refine ⟨by rw [(hd46_none hn).1]; exact h1.1, ?_⟩
    have hf : has46 (sfx l k) = false := by simpa using hh
    rw [hf]; symm; rw [decide_eq_false_iff_not]
    intro h'
    have := congrArg List.length h1.2
    simp at this; omega

def dig (c : UInt8) : Bool := decide (48 ≤ c.toNat ∧ c.toNat ≤ 57)
def lab (c : UInt8) : Bool := decide (48 ≤ c.toNat ∧ c.toNat ≤ 57) || (decide (97 ≤ c.toNat ∧ c.toNat ≤ 122) || decide (c.toNat = 45))
def labelOk (l : List UInt8) : Bool := decide (1 ≤ l.length ∧ l.length ≤ 63 ∧ ¬ (l.getD 0 0).toNat = 45 ∧ ¬ (l.getD (l.length - 1) 0).toNat = 45) && l.all lab
/-- is it a name? -/
def may (l : List UInt8) : Bool := decide (l.length ≤ 253) && (cut46 l).all labelOk && !((cut46 l).getLast (cut46_ne l)).all dig
end Go.Proofs.YtehkdbgoeakgbaaGreatDoor
/- name: strings.Cut at a dot; label. -/
namespace Go.Proofs.YtehkdbgoeakgbaaGreatDoor
set_option linter.all false
open Go.RowKit

theorem cutlite_any (l : List UInt8) (w : World) (hs : l.length ≤ 1000000000) :
    Calls Tryz.prog 78 #[.string ⟨l.toArray⟩, .string ⟨#[46]⟩] w fun e w' => e = .returned (.tuple #[.string ⟨(hd46 l).toArray⟩, .string ⟨(tl46 l).toArray⟩, .bool (has46 l)]) ∧ Chg [] w w' := by
  rcases dot_place l with ⟨h, hn⟩ | ⟨o, h1, h2, h3, h4, h5⟩
  · obtain ⟨e1, e2, e3⟩ := hd46_none hn
    rw [e1, e2, e3]
    clear e1 e2 e3 hn
    generalize hi : Lib.indexByte l 46 = i at h
    have HI := Lib.hid hi; clear hi
    go_enter Tryz.func78, Tryz.ntmps78
    go_wp2_with fail
    refine (Tryz.stringslite_Index_one ⟨l.toArray⟩ 46 _).mono ?_
    rw [HI.out]
    rintro e w' ⟨rfl, rfl⟩
    go_wp2_with fail
    go_returns
    exact ⟨rfl, Chg.refl _ _⟩
  · rw [h5]
    have H2 := Lib.hid h2; have H3 := Lib.hid h3; have H4 := Lib.hid h4
    clear h2 h3 h4 h5
    have ho : (0 : Int) ≤ (o : Int) := by omega
    have h1' : (o : Int) < (l.length : Int) := by omega
    have s1 : IntKind.i64.wrap ((o : Int) + 1) = (o : Int) + 1 := IntWalk.i64_in _ (by omega)
    go_enter Tryz.func78, Tryz.ntmps78
    go_wp2_with fail
    refine (Tryz.stringslite_Index_one ⟨l.toArray⟩ 46 _).mono ?_
    rw [H2.out]
    rintro e w' ⟨rfl, rfl⟩
    clear s1
    go_wp2_with fail
    go_quiet (fail)
    go_wp2_with fail
    rw [H3.out, H4.out]
    go_returns
    exact ⟨rfl, (Chg.refl _ _).drewN _⟩
theorem cutdot_any (l : List UInt8) (w : World) (hs : l.length ≤ 1000000000) :
    Calls Tryz.prog 59 #[.string ⟨l.toArray⟩, .string ⟨#[46]⟩] w fun e w' => e = .returned (.tuple #[.string ⟨(hd46 l).toArray⟩, .string ⟨(tl46 l).toArray⟩, .bool (has46 l)]) ∧ Chg [] w w' := by
  go_enter Tryz.func59, Tryz.ntmps59
  go_wp2_with fail
  refine (cutlite_any l _ hs).mono ?_
  rintro e w' ⟨rfl, ch⟩
  go_wp2_with fail
  go_returns
  exact ⟨rfl, ch⟩

theorem dig_true {c : UInt8} (h : 48 ≤ (c.toNat : Int) ∧ (c.toNat : Int) ≤ 57) : dig c = true := by simp only [dig, decide_eq_true_eq]; omega
theorem dig_false {c : UInt8} (h : ¬ (48 ≤ (c.toNat : Int) ∧ (c.toNat : Int) ≤ 57)) : dig c = false := by simp only [dig, decide_eq_false_iff_not]; omega
theorem all_snoc {p : UInt8 → Bool} {l : List UInt8} {k : Nat} (h : k < l.length) (ha : (l.take k).all p = true) (hp : p l[k] = true) : (l.take (k + 1)).all p = true := by
  rw [List.take_succ_eq_append_getElem h, List.all_append, ha]; simp [hp]
theorem all_step {p : UInt8 → Bool} {l : List UInt8} {k : Nat} (h : k < l.length) : (l.take (k + 1)).all p = ((l.take k).all p && p l[k]) := by
  rw [List.take_succ_eq_append_getElem h, List.all_append]; simp
theorem all_not {p : UInt8 → Bool} {l : List UInt8} {k : Nat} (h : k < l.length) (hp : p l[k] = false) : l.all p = false := by
  rw [List.all_eq_false]; exact ⟨l[k], List.getElem_mem h, by simp [hp]⟩
theorem getD_lt (l : List UInt8) (k : Nat) (h : k < l.length) : l.getD k 0 = l[k] := by simp [h]
theorem lab_or (c : UInt8) : (lab c = true ∧ dig c = true ∧ 48 ≤ (c.toNat : Int) ∧ (c.toNat : Int) ≤ 57) ∨ (lab c = true ∧ dig c = false ∧ 57 < (c.toNat : Int) ∧ 97 ≤ (c.toNat : Int) ∧ (c.toNat : Int) ≤ 122) ∨ (lab c = true ∧ dig c = false ∧ (c.toNat : Int) = 45) ∨
    (lab c = false ∧ (c.toNat : Int) < 48 ∧ ¬ (c.toNat : Int) = 45) ∨ (lab c = false ∧ 57 < (c.toNat : Int) ∧ (c.toNat : Int) < 97) ∨ (lab c = false ∧ 122 < (c.toNat : Int)) := by
  unfold lab dig
  simp only [Bool.or_eq_true, decide_eq_true_eq, Bool.or_eq_false_iff, decide_eq_false_iff_not]
  omega
def labelV (l : List UInt8) : Value := .tuple #[.bool (labelOk l), .bool (labelOk l && l.all dig)]
theorem labelOk_no {l : List UInt8} (h : ¬ (1 ≤ l.length ∧ l.length ≤ 63 ∧ ¬ (l.getD 0 0).toNat = 45 ∧ ¬ (l.getD (l.length - 1) 0).toNat = 45)) : labelOk l = false := by
  unfold labelOk; rw [decide_eq_false h]; rfl
/-- what holds where label jumps to its end -/
def LabelNo (l : List UInt8) (w : World) (a : Act) (w' : World) : Prop := labelOk l = false ∧ w' = w ∧ ∃ t0 t1 t2 t3 t4 t5 t6 t7 t8 t9 t10 t11 t12 t13 t14 t15 t16 t17 t18 t19 t20 t21 t22 t23 t24 t25 t26 t27 t28 t29 t30 t31 t32 t33 t34 t35 t36 t37 t38 t39 t40 t41 t42 t43 t44 t45 t46 t47 t48 t49 t50 t51 t52 : Value, a = { tmps := #[t0, t1, t2, t3, t4, t5, t6, t7, t8, t9, t10, t11, t12, t13, t14, t15, t16, t17, t18, t19, t20, t21, t22, t23, t24, t25, t26, t27, t28, t29, t30, t31, t32, t33, t34, t35, t36, t37, t38, t39, t40, t41, t42, t43, t44, t45, t46, t47, t48, t49, t50, t51, t52], defers := [] }
theorem labelNo {l : List UInt8} {w : World} (t0 t1 t2 t3 t4 t5 t6 t7 t8 t9 t10 t11 t12 t13 t14 t15 t16 t17 t18 t19 t20 t21 t22 t23 t24 t25 t26 t27 t28 t29 t30 t31 t32 t33 t34 t35 t36 t37 t38 t39 t40 t41 t42 t43 t44 t45 t46 t47 t48 t49 t50 t51 t52 : Value) (h : labelOk l = false) : LabelNo l w { tmps := #[t0, t1, t2, t3, t4, t5, t6, t7, t8, t9, t10, t11, t12, t13, t14, t15, t16, t17, t18, t19, t20, t21, t22, t23, t24, t25, t26, t27, t28, t29, t30, t31, t32, t33, t34, t35, t36, t37, t38, t39, t40, t41, t42, t43, t44, t45, t46, t47, t48, t49, t50, t51, t52], defers := [] } w := ⟨h, rfl, _, _, _, _, _, _, _, _, _, _, _, _, _, _, _, _, _, _, _, _, _, _, _, _, _, _, _, _, _, _, _, _, _, _, _, _, _, _, _, _, _, _, _, _, _, _, _, _, _, _, _, _, _, rfl⟩
set_option maxHeartbeats 1000000 in
theorem label_any (l : List UInt8) (w : World) (hs : l.length ≤ 1000000000) :
    Calls Tryz.prog 46 #[.string ⟨l.toArray⟩] w fun e w' => e = .returned (labelV l) ∧ w = w' := by
  go_enter Tryz.func46, Tryz.ntmps46
  go_wp2
  refine wp_scope_jumps 0 (LabelNo l w) (fun _ _ => 0) rfl ?first ?pass
  case pass =>
    rintro a w1 ⟨h, rfl, t0, t1, t2, t3, t4, t5, t6, t7, t8, t9, t10, t11, t12, t13, t14, t15, t16, t17, t18, t19, t20, t21, t22, t23, t24, t25, t26, t27, t28, t29, t30, t31, t32, t33, t34, t35, t36, t37, t38, t39, t40, t41, t42, t43, t44, t45, t46, t47, t48, t49, t50, t51, t52, rfl⟩
    have H := Lib.hid h; clear h
    go_wp2
    simp only [Exit.jump]
    go_ret2
    exact ⟨by rw [labelV, H.out]; rfl, rfl⟩
  case first =>
    by_cases h1 : l.length < 1
    · have h1' : decide ((l.length : Int) < 1) = true := by simp; omega
      have E := Lib.hid (labelOk_no (l := l) (by omega))
      go_wp2
      refine wp_goto ⟨rfl, labelNo _ _ _ _ _ _ _ _ _ _ _ _ _ _ _ _ _ _ _ _ _ _ _ _ _ _ _ _ _ _ _ _ _ _ _ _ _ _ _ _ _ _ _ _ _ _ _ _ _ _ _ _ _ E.out⟩
    have h1' : decide ((l.length : Int) < 1) = false := by simp; omega
    by_cases h2 : 63 < l.length
    · have h2' : decide ((63 : Int) < (l.length : Int)) = true := by simp; omega
      have E := Lib.hid (labelOk_no (l := l) (by omega))
      go_wp2
      refine wp_goto ⟨rfl, labelNo _ _ _ _ _ _ _ _ _ _ _ _ _ _ _ _ _ _ _ _ _ _ _ _ _ _ _ _ _ _ _ _ _ _ _ _ _ _ _ _ _ _ _ _ _ _ _ _ _ _ _ _ _ E.out⟩
    have h2' : decide ((63 : Int) < (l.length : Int)) = false := by simp; omega
    have l0 : 0 < l.length := by omega
    have g0 := Lib.hid (getD_lt l 0 l0)
    have gl := Lib.hid (getD_lt l (l.length - 1) (by omega))
    by_cases h3 : (l[0].toNat : Int) = 45
    · have h3' : ((l[0].toNat : Int) == 45) = true := by simp [h3]
      have E := Lib.hid (labelOk_no (l := l) (by rw [g0.out]; omega))
      clear h3
      go_wp2
      refine wp_goto ⟨rfl, labelNo _ _ _ _ _ _ _ _ _ _ _ _ _ _ _ _ _ _ _ _ _ _ _ _ _ _ _ _ _ _ _ _ _ _ _ _ _ _ _ _ _ _ _ _ _ _ _ _ _ _ _ _ _ E.out⟩
    have h3' : ((l[0].toNat : Int) == 45) = false := by simpa using h3
    have q1 : (l.length : Int) - 1 < (l.length : Int) := by omega
    have q2 : 0 ≤ (l.length : Int) - 1 := by omega
    have q3 : ((l.length : Int) - 1).toNat = l.length - 1 := by omega
    have q4 : l.length - 1 < l.length := by omega
    by_cases h4 : ((l[l.length - 1]'q4).toNat : Int) = 45
    · have h4' : (((l[l.length - 1]'q4).toNat : Int) == 45) = true := by simp [h4]
      have E := Lib.hid (labelOk_no (l := l) (by rw [gl.out]; omega))
      clear h3 h4
      go_wp2
      refine wp_goto ⟨rfl, labelNo _ _ _ _ _ _ _ _ _ _ _ _ _ _ _ _ _ _ _ _ _ _ _ _ _ _ _ _ _ _ _ _ _ _ _ _ _ _ _ _ _ _ _ _ _ _ _ _ _ _ _ _ _ E.out⟩
    have h4' : (((l[l.length - 1]'q4).toNat : Int) == 45) = false := by simpa using h4
    have EE : Hid (labelOk l = l.all lab) := by
      unfold Hid labelOk
      rw [decide_eq_true (by rw [g0.out, gl.out]; omega)]; rfl
    clear h3 h4 q1 q2 q3
    have q1 : (l.length : Int) - 1 < (l.length : Int) := by omega
    have q2 : 0 ≤ (l.length : Int) - 1 := by omega
    have q3 : ((l.length : Int) - 1).toNat = l.length - 1 := by omega
    go_wp2
    go_loop [3, 29] (fun dv i => ∃ (k : Nat) (b : Bool), k ≤ l.length ∧ i = .int .i64 k ∧ dv = .bool b ∧ (l.take k).all lab = true ∧ (l.take k).all dig = b) (fun _ i => l.length - (intOf i).toNat)
    case atStart => exact ⟨0, true, by omega, rfl, rfl, rfl, rfl⟩
    case round =>
      obtain ⟨k, b, hk, rfl, rfl, ha, hd⟩ := hrel
      have HA := Lib.hid ha; have HD := Lib.hid hd
      clear ha hd
      by_cases hlt : k < l.length
      · have hb1 : (k : Int) < (l.length : Int) := by omega
        rcases lab_or l[k] with ⟨e1, e2, c1, c2⟩ | ⟨e1, e2, c1, c2, c3⟩ | ⟨e1, e2, c1⟩ | ⟨e1, c1, c2⟩ | ⟨e1, c1, c2⟩ | ⟨e1, c1⟩
        · have E1 := Lib.hid e1; have E2 := Lib.hid e2; clear e1 e2
          go_wp2
          go_round
          case rel => exact ⟨k + 1, b, by omega, by go_num, rfl, all_snoc hlt HA.out E1.out, by rw [all_step hlt, HD.out, E2.out]; simp⟩
          case measure => simp [intOf]; omega
        · have E1 := Lib.hid e1; have E2 := Lib.hid e2; clear e1 e2
          go_wp2
          go_round
          case rel => exact ⟨k + 1, false, by omega, by go_num, rfl, all_snoc hlt HA.out E1.out, by rw [all_step hlt, E2.out]; simp⟩
          case measure => simp [intOf]; omega
        · have E1 := Lib.hid e1; have E2 := Lib.hid e2; clear e1 e2
          have c1' : ((l[k].toNat : Int) == 45) = true := by simp [c1]
          have c2' : (l[k].toNat : Int) < 48 := by omega
          go_wp2
          go_round
          case rel => exact ⟨k + 1, false, by omega, by go_num, rfl, all_snoc hlt HA.out E1.out, by rw [all_step hlt, E2.out]; simp⟩
          case measure => simp [intOf]; omega
        all_goals
          have EN : Hid (labelOk l = false) := by unfold Hid; rw [EE.out]; exact all_not hlt e1
          clear e1
          first
          | have c2' : ((l[k].toNat : Int) == 45) = false := by simp; omega
          | skip
          go_wp2
          all_goals first
          | exact wp_goto ⟨rfl, labelNo _ _ _ _ _ _ _ _ _ _ _ _ _ _ _ _ _ _ _ _ _ _ _ _ _ _ _ _ _ _ _ _ _ _ _ _ _ _ _ _ _ _ _ _ _ _ _ _ _ _ _ _ _ EN.out⟩
          | (exfalso; rename_i hx; simp at hx; omega)
          | go_goals
      · go_wp2
        simp only [Exit.jump]
        go_ret2
        obtain rfl : k = l.length := by omega
        have h1 := HA.out; have h2 := HD.out
        rw [List.take_length] at h1 h2
        exact ⟨by rw [labelV, EE.out, h1, h2]; rfl, rfl⟩
end Go.Proofs.YtehkdbgoeakgbaaGreatDoor
/- name: split, May. -/
namespace Go.Proofs.YtehkdbgoeakgbaaGreatDoor
set_option linter.all false
open Go.RowKit Go.Shelf
attribute [local go_sem] Oper.semAt_some

def encS (x : List UInt8) : Array Value := #[.string ⟨x.toArray⟩]
def boxS (B : Nat) (x : List UInt8) : Piece := box B #[.string ⟨x.toArray⟩] 9
theorem split_own {w0 w : World} {L : List Piece} (O : Own w0 w L) (l : List UInt8) :
    Calls Tryz.prog 45 #[.string ⟨l.toArray⟩] w fun e w' => ∃ B, e = .returned (.func (.func 64) #[] #[.pointer (some ⟨B, 0, none⟩)]) ∧ Own w0 w' (boxS B l :: L) := by
  go_enter Tryz.func45, Tryz.ntmps45
  go_wp2
  go_ret
  exact ⟨w.heap.size, rfl, O.newBox _ _⟩

/-- how long the text in a box is -/
def left (wr : World) (B : Nat) : Nat := match wr.cell? ⟨B, 0, none⟩ with
  | some (.string s) => s.size
  | _ => 0
theorem left_eq {w0 wr : World} {L : List Piece} {B : Nat} {x : List UInt8} (O : Own w0 wr (boxS B x :: L)) : left wr B = x.length := by
  have : wr.cell? ⟨B, 0, none⟩ = some (.string ⟨x.toArray⟩) := Own.cell O 0
  unfold left; rw [this]; rfl

set_option maxHeartbeats 1000000 in
theorem split_iter (l : List UInt8) (hl : l.length ≤ 1000000000) (B : Nat) : IterO Tryz.prog 64 #[.pointer (some ⟨B, 0, none⟩)] encS (cut46 l) (fun k => boxS B (sfx l k)) := by
  intro n w0 lp R Rx hY L W O h0
  refine callsIn_of_wp Tryz.func64 rfl trivial ?_
  simp only [Tryz.ntmps64, List.size_toArray, List.length_cons, List.length_nil, Nat.reduceAdd, Nat.reduceSub, Array.replicate_succ, Array.replicate_zero, List.push_toArray, List.append_toArray, List.nil_append, List.cons_append]
  have HY := Lib.hid hY; clear hY
  have HO := O
  gi_wp2
  gi_loopw [3] (fun _ wr => ∃ (k : Nat) (L : List Piece), k < (cut46 l).length ∧ Own w0 wr (boxS B (sfx l k) :: L) ∧ R k L) (fun _ wr => left wr B)
  case atStart => exact ⟨0, L, by have := cut46_ne l; exact List.length_pos_iff.2 this, O, h0⟩
  case round =>
    clear O HO h0
    obtain ⟨k, L, hk, O, hR⟩ := hrel
    have hle := sfx_le l k
    obtain ⟨e1, e2⟩ := sfx_at l k hk
    have E1 := Lib.hid e1; have E2 := Lib.hid e2
    clear e1 e2
    have c0 : wr.cell? ⟨B, 0, none⟩ = some (.string ⟨(sfx l k).toArray⟩) := Own.cell O 0
    have ML := Lib.hid (left_eq O)
    obtain ⟨s, hs⟩ : ∃ s, s = sfx l k := ⟨_, rfl⟩
    have TS : Hid (sfx l (k + 1) = tl46 s) := by rw [hs]; rfl
    rw [← hs] at O c0 ML E1 E2 hle
    have HS := Lib.hid hs; clear hs
    gi_wp2_with fail
    refine ⟨trivial, (fun h => by cases h), ?_⟩
    refine (callsIn_wide.2 (cutdot_any s _ (by omega))).mono ?_
    rintro e w1 ⟨rfl, ch1⟩
    rw [E1.out]
    replace O := O.pure ch1
    clear c0 ch1
    obtain ⟨fn, tmps, assign, body, hy, hRn⟩ := HY.out k hk L w1 (by show Own w0 w1 (boxS B (sfx l k) :: L); rw [← HS.out]; exact O) hR
    dsimp only [encS] at hy
    have E3 := E2.out
    obtain ⟨m, hm⟩ : ∃ m, m = has46 s := ⟨_, rfl⟩
    rw [← hm] at E3 ⊢
    have HM := Lib.hid hm; have HE := Lib.hid E3
    clear hm E3
    gi_wp2_with fail
    refine ⟨(fun h => by cases h), ?_⟩
    refine hRn.mono ?_
    clear hRn hy O
    rintro e W3 (⟨rfl, L', O3, hR3⟩ | ⟨rfl, L', O3, hx⟩)
    · have O3' : Own w0 W3 (boxS B s :: L') := by rw [HS.out]; exact O3
      have c0 : W3.cell? ⟨B, 0, none⟩ = some (.string ⟨s.toArray⟩) := Own.cell O3' 0
      have cf : ∀ o, W3.frozen? ⟨B, o, none⟩ = false := fun o => Own.free O3' o
      cases m
      · gi_wp2
        refine bodyPost_ret (results_none rfl _ _ _) rfl ?_
        have : k + 1 = (cut46 l).length := by have := HE.out; simp at this; omega
        exact ⟨⟨_, rfl⟩, .inl ⟨L', O3.drop, by rw [← this]; exact hR3⟩⟩
      · gi_wp2
        go_roundw
        case rel => exact ⟨k + 1, L', by have := HE.out; simpa using this, by rw [TS.out]; exact Own.set O3' 0 _, hR3⟩
        case measure =>
          rw [ML.out]
          have h4 : Own w0 (W3.setCell ⟨B, 0, none⟩ (.string ⟨(tl46 s).toArray⟩)) (boxS B (tl46 s) :: L') := Own.set O3' 0 _
          rw [left_eq h4]
          exact tl46_len HM.out.symm
    · gi_wp2
      refine bodyPost_ret (results_none rfl _ _ _) rfl ?_
      exact ⟨⟨_, rfl⟩, .inr ⟨L', O3.drop, hx⟩⟩
end Go.Proofs.YtehkdbgoeakgbaaGreatDoor
/- name.May. -/
namespace Go.Proofs.YtehkdbgoeakgbaaGreatDoor
set_option linter.all false
open Go.RowKit Go.Shelf
attribute [local go_sem] Oper.semAt_some

theorem may_long {l : List UInt8} (h : 253 < l.length) : may l = false := by
  unfold may; rw [decide_eq_false (by omega)]; simp
theorem may_of {l : List UInt8} (h : l.length ≤ 253) (ha : ∀ j (h : j < (cut46 l).length), labelOk (cut46 l)[j] = true) :
    may l = !((cut46 l)[(cut46 l).length - 1]'(by have := List.length_pos_iff.2 (cut46_ne l); omega)).all dig := by
  unfold may
  have : (cut46 l).all labelOk = true := by
    rw [List.all_eq_true]
    intro x hx
    obtain ⟨j, hj, rfl⟩ := List.mem_iff_getElem.1 hx
    exact ha j hj
  rw [decide_eq_true h, this, List.getLast_eq_getElem]; rfl
set_option maxHeartbeats 1000000 in
theorem may_any (l : List UInt8) (w : World) (hl : l.length ≤ 1000000000) :
    Calls Tryz.prog 26 #[.string ⟨l.toArray⟩] w fun e w' => e = .returned (.bool (may l)) ∧ Chg [] w w' := by
  refine (callsIn_wide (n := 3)).1 ?_
  refine callsIn_of_wp_marks Tryz.func26 rfl trivial ?_
  simp only [Tryz.ntmps26, List.size_toArray, List.length_cons, List.length_nil, Nat.reduceAdd, Nat.reduceSub, Array.replicate_succ, Array.replicate_zero, List.push_toArray, List.append_toArray, List.nil_append, List.cons_append]
  by_cases h1 : 253 < l.length
  · have h1' : (253 : Int) < (l.length : Int) := by omega
    gi_wp2
    exact ⟨.bool false, by simp [results, Tryz.results26, go_sem], ⟨by rw [may_long h1], (Chg.refl _ _).alloc _⟩⟩
  have h1' : ¬ (253 : Int) < (l.length : Int) := by omega
  have O := ((Own.start w).newBox #[.bool false] 4).newBox #[.bool false] 4
  rw [show (w.alloc (.cells #[.bool false] 4)).heap.size = w.heap.size + 1 from by simp] at O
  gi_wp2_with fail
  refine ⟨trivial, ?_⟩
  refine (callsIn_wide.2 (split_own O l)).mono ?_
  clear O
  rintro e w1 ⟨B, rfl, O⟩
  gi_wp2_with fail
  obtain ⟨rb, hrb⟩ : ∃ b, b = w.heap.size := ⟨_, rfl⟩
  obtain ⟨lb, hlb⟩ : ∃ b, b = w.heap.size + 1 := ⟨_, rfl⟩
  rw [← hlb, ← hrb] at O ⊢
  clear hlb hrb
  refine range_own (w0 := w) rfl (enters_of Tryz.func64 (by kernel_rfl) rfl) (split_iter l hl B) (fun _ => rfl)
    (fun k L => ∃ d : Bool, L = [box lb #[.bool d] 4, box rb #[.bool false] 4] ∧ (∀ j (h : j < (cut46 l).length), j < k → labelOk (cut46 l)[j] = true) ∧ (∀ (h : k - 1 < (cut46 l).length), 0 < k → d = (cut46 l)[k - 1].all dig))
    (fun c L => c = .ret ∧ (cut46 l).all labelOk = false ∧ ∃ d : Bool, L = [box lb #[.bool d] 4, box rb #[.bool false] 4])
    O ⟨false, rfl, fun j h h' => by omega, fun h h' => by omega⟩
    (fun x => { tmps := #[.string ⟨l.toArray⟩, undef, .pointer (some ⟨rb, 0, none⟩), .pointer (some ⟨lb, 0, none⟩), .string ⟨x.toArray⟩, undef, undef, .string ⟨l.toArray⟩, .int .i64 ↑l.length, .bool false, .string ⟨l.toArray⟩, .func (.func 64) #[] #[.pointer (some ⟨B, 0, none⟩)], .string ⟨x.toArray⟩, undef, undef, undef, undef, undef, undef, undef, undef, undef, undef], defers := [] }) ?assign ?body ?done ?stop
  case assign =>
    intro m lp x W K hK
    dsimp only [encS]
    gi_wp2
    exact hK
  case body =>
    clear O
    rintro m lp D o1 o2 k hk L W O ⟨d, rfl, hall, hd⟩
    have HALL := Lib.hid hall; clear hall hd
    obtain ⟨e1, e2⟩ := sfx_at l k hk
    have hlen : (cut46 l)[k].length ≤ 1000000000 := by rw [← e1]; have := hd46_le (sfx l k); have := sfx_le l k; omega
    clear e1 e2
    obtain ⟨x, hx⟩ : ∃ x, x = (cut46 l)[k] := ⟨_, rfl⟩
    rw [← hx] at hlen ⊢
    have HX := Lib.hid hx; clear hx
    gi_wp2_with fail
    refine ⟨trivial, (fun h => by cases h), ?_⟩
    refine (CallsIn.inRound lp (callsIn_wide.2 (label_any x _ hlen))).mono ?_
    rintro e w2 ⟨rfl, rfl⟩
    unfold labelV
    have l0 : W.cell? ⟨lb, 0, none⟩ = some (.bool d) := (O.pick 3).cell 0
    have lf : ∀ o, W.frozen? ⟨lb, o, none⟩ = false := fun o => (O.pick 3).free o
    have r0 : W.cell? ⟨rb, 0, none⟩ = some (.bool false) := (O.pick 4).cell 0
    have rf : ∀ o, W.frozen? ⟨rb, o, none⟩ = false := fun o => (O.pick 4).free o
    cases hok : labelOk x
    · gi_wp2
      refine ⟨_, ((O.pick 4).set 0 (.bool false)).sel [1, 2, 3, 4, 0], rfl, ?_, d, rfl⟩
      rw [List.all_eq_false]
      exact ⟨_, List.getElem_mem hk, by rw [← HX.out, hok]; simp⟩
    · gi_wp2
      refine ⟨_, ((O.pick 3).set 0 _).sel [1, 2, 3, 0, 4], _, rfl, fun j h h' => ?_, fun h _ => ?_⟩
      · by_cases e : j = k
        · subst e; rw [← HX.out]; exact hok
        · exact HALL.out j h (by omega)
      · simp [HX.out]
  case done =>
    clear O
    rintro D L W O ⟨d, rfl, hall, hd⟩
    have l0 : W.cell? ⟨lb, 0, none⟩ = some (.bool d) := (O.pick 1).cell 0
    have r0 : W.cell? ⟨rb, 0, none⟩ = some (.bool false) := (O.pick 2).cell 0
    have rf : ∀ o, W.frozen? ⟨rb, o, none⟩ = false := fun o => (O.pick 2).free o
    have hne := List.length_pos_iff.2 (cut46_ne l)
    have hlast := hd (by omega) (by omega)
    have HALL := Lib.hid hall; have HL := Lib.hid hlast
    clear hall hd hlast
    simp only [Exit.inBlock, Exit.then]
    gi_wp2
    have O2 := (O.pick 2).set 0 (.bool !d)
    refine ⟨by simp, .inl ⟨_, _, rfl, run_takeDeferred (O2.pick 1).at, ?_⟩⟩
    have O3 := (O2.pick 1).put (.deferred none)
    have rc := (O3.pick 1).cell 0
    refine ⟨.bool !d, by simp [results, Tryz.results26, go_sem, rc], ⟨?_, O3.chg⟩⟩
    rw [may_of (by omega) (fun j h => HALL.out j h h), HL.out]
  case stop =>
    clear O
    rintro D c L W O ⟨rfl, hno, d, rfl⟩
    gi_wp2
    refine ⟨by simp, .inl ⟨_, _, rfl, run_takeDeferred O.at, ?_⟩⟩
    have O3 := O.put (.deferred none)
    have rc := (O3.pick 2).cell 0
    refine ⟨.bool false, by simp [results, Tryz.results26, go_sem, rc], ⟨?_, O3.chg⟩⟩
    rw [may, hno]; simp
end Go.Proofs.YtehkdbgoeakgbaaGreatDoor
/- name: Fold (as in the name layer's text). -/
namespace Go.Proofs.YtehkdbgoeakgbaaGreatDoor
set_option linter.all false
open Go.RowKit Go.Shelf

def low (c : UInt8) : UInt8 := if 65 ≤ c.toNat ∧ c.toNat ≤ 90 then UInt8.ofNat (c.toNat + 32) else c
theorem low_toNat (c : UInt8) : (low c).toNat = if 65 ≤ c.toNat ∧ c.toNat ≤ 90 then c.toNat + 32 else c.toNat := by
  unfold low; split
  · simp; omega
  · rfl
def foldTo (l : List UInt8) (k : Nat) : List UInt8 := (l.take k).map low ++ l.drop k
theorem foldTo_len (l : List UInt8) (k : Nat) : (foldTo l k).length = l.length := by simp [foldTo]; omega
theorem foldTo_get (l : List UInt8) (k j : Nat) (h : j < l.length) : (foldTo l k)[j]'(by rw [foldTo_len]; exact h) = if j < k then low l[j] else l[j] := by
  unfold foldTo
  rw [List.getElem_append]
  by_cases hj : j < k
  · rw [dif_pos (by simp; omega), if_pos hj]; simp
  · rw [dif_neg (by simp; omega), if_neg hj]
    simp only [List.length_map, List.length_take, List.getElem_drop]
    congr 1; omega
theorem foldTo_at {l : List UInt8} {k : Nat} (h : k < l.length) : (foldTo l k)[k]'(by rw [foldTo_len]; exact h) = l[k] := by
  rw [foldTo_get l k k h, if_neg (by omega)]
theorem foldTo_set {l : List UInt8} {k : Nat} (h : k < l.length) : (foldTo l k).set k (low l[k]) = foldTo l (k + 1) := by
  apply List.ext_getElem
  · simp [foldTo_len]
  · intro j h1 h2
    have hj : j < l.length := by rw [foldTo_len] at h2; exact h2
    rw [List.getElem_set, foldTo_get l (k + 1) j hj]
    by_cases e : k = j
    · subst e; rw [if_pos rfl, if_pos (by omega)]
    · rw [if_neg e, foldTo_get l k j hj]
      by_cases q : j < k
      · rw [if_pos q, if_pos (by omega)]
      · rw [if_neg q, if_neg (by omega)]
theorem foldTo_same {l : List UInt8} {k : Nat} (h : k < l.length) (hc : low l[k] = l[k]) : foldTo l k = foldTo l (k + 1) := by
  apply List.ext_getElem
  · simp [foldTo_len]
  · intro j h1 h2
    have hj : j < l.length := by rw [foldTo_len] at h2; exact h2
    rw [foldTo_get l k j hj, foldTo_get l (k + 1) j hj]
    by_cases q : j < k
    · rw [if_pos q, if_pos (by omega)]
    · rw [if_neg q]
      by_cases e : j = k
      · subst e; rw [if_pos (by omega), hc]
      · rw [if_neg (by omega)]
theorem low_great {c : UInt8} (h1 : 65 ≤ (c.toNat : Int)) (h2 : (c.toNat : Int) ≤ 90) : ((low c).toNat : Int) = (c.toNat : Int) - 65 + 97 := by
  rw [low_toNat, if_pos (by omega)]; omega
theorem low_small {c : UInt8} (h : (c.toNat : Int) < 65 ∨ 90 < (c.toNat : Int)) : low c = c := by
  unfold low; rw [if_neg (by omega)]
theorem foldTo_zero (l : List UInt8) : foldTo l 0 = l := by simp [foldTo]
theorem foldTo_end (l : List UInt8) : foldTo l l.length = l.map low := by simp [foldTo]
def folded (l : List UInt8) : List UInt8 := (Lib.trimSuffix l [46]).map low
theorem trimSuffix_le (l p : List UInt8) : (Lib.trimSuffix l p).length ≤ l.length := by
  unfold Lib.trimSuffix; split
  · simp
  · exact Nat.le_refl _
def foldV (l : List UInt8) : Value := if may (folded l) then .tuple #[.string ⟨(folded l).toArray⟩, .int .i64 0] else .tuple #[.string ⟨#[]⟩, .int .i64 4]

set_option maxHeartbeats 1000000 in
theorem fold_any (l : List UInt8) (w : World) (hl : l.length ≤ 1000000000) :
    Calls Tryz.prog 70 #[.string ⟨l.toArray⟩] w fun e w' => e = .returned (foldV l) ∧ Chg [] w w' := by
  have ht := trimSuffix_le l [46]
  go_enter Tryz.func70, Tryz.ntmps70
  go_wp2_with fail
  refine (Tryz.strings_TrimSuffix ⟨l.toArray⟩ ⟨#[46]⟩ _ (by simp [ByteArray.size]; omega)).mono ?_
  rintro e w1 ⟨rfl, rfl⟩
  have HF : Hid (folded l = (Lib.trimSuffix l [46]).map low) := rfl
  simp only at ht ⊢
  generalize Lib.trimSuffix l [46] = t at *
  obtain ⟨g, cap, W1, hcv, O⟩ := (Own.start w1).toBytes t
  go_wp2_with fail
  go_loopw [12] (fun iv wr => ∃ k : Nat, k ≤ t.length ∧ iv = .int .i64 k ∧ Own w1 wr [bytes g (foldTo t k)]) (fun iv _ => t.length - (intOf iv).toNat)
  case atStart => exact ⟨0, by omega, rfl, by rw [foldTo_zero]; exact O⟩
  case round =>
    clear O hcv
    obtain ⟨k, hk, rfl, O⟩ := hrel
    by_cases hlt : k < t.length
    · have hb1 : (k : Int) < (t.length : Int) := by omega
      obtain ⟨r1, r2⟩ := O.byteCell k (by rw [foldTo_len]; exact hlt)
      rw [foldTo_at hlt] at r1
      have SET := Lib.hid (foldTo_set hlt)
      have h256 : (t[k].toNat : Int) < 256 := by have := t[k].toNat_lt; omega
      by_cases c1 : 65 ≤ (t[k].toNat : Int)
      · by_cases c2 : (t[k].toNat : Int) ≤ 90
        · have LG := Lib.hid (low_great c1 c2)
          go_wp2
          go_roundw
          case rel => exact ⟨k + 1, by omega, by go_num, by rw [← SET.out, ← LG.out]; exact O.setByte k (low t[k])⟩
          case measure => simp [intOf]; omega
        · have SM := Lib.hid (foldTo_same hlt (low_small (.inr (by omega))))
          go_wp2
          go_roundw
          case rel => exact ⟨k + 1, by omega, by go_num, by rw [← SM.out]; exact O⟩
          case measure => simp [intOf]; omega
      · have SM := Lib.hid (foldTo_same hlt (low_small (.inl (by omega))))
        go_wp2
        go_roundw
        case rel => exact ⟨k + 1, by omega, by go_num, by rw [← SM.out]; exact O⟩
        case measure => simp [intOf]; omega
    · obtain rfl : k = t.length := by omega
      rw [foldTo_end, ← HF.out] at O
      have hfl : (folded l).length = t.length := by rw [HF.out]; simp
      have hcv := O.fromBytes cap
      rw [hfl] at hcv
      clear HF
      have HV : Hid (foldV l = if may (folded l) then .tuple #[.string ⟨(folded l).toArray⟩, .int .i64 0] else .tuple #[.string ⟨#[]⟩, .int .i64 4]) := rfl
      generalize folded l = f at *
      go_wp2_with fail
      refine (may_any f _ (by omega)).mono ?_
      rintro e w2 ⟨rfl, ch2⟩
      replace O := O.pure ch2
      clear hcv ch2
      have hcv := O.fromBytes cap
      rw [hfl] at hcv
      cases hm : may f
      · go_wp2
        go_ret2
        exact ⟨by rw [HV.out, hm]; rfl, O.chg⟩
      · go_wp2
        go_ret2
        exact ⟨by rw [HV.out, hm]; rfl, O.chg⟩

theorem may_len {l : List UInt8} (h : may l = true) : l.length ≤ 253 := by
  unfold may at h
  simp only [Bool.and_eq_true, decide_eq_true_eq] at h
  exact h.1.1
end Go.Proofs.YtehkdbgoeakgbaaGreatDoor
/- addr, in plain: what an address is. -/
namespace Go.Proofs.YtehkdbgoeakgbaaGreatDoor
set_option linter.all false
open Go.RowKit

def signsL : List UInt8 := [33, 35, 36, 37, 38, 39, 42, 43, 45, 47, 61, 63, 94, 95, 123, 124, 125, 126, 96]
def letterB (c : UInt8) : Bool := decide (97 ≤ c.toNat ∧ c.toNat ≤ 122) || (decide (65 ≤ c.toNat ∧ c.toNat ≤ 90) || decide (48 ≤ c.toNat ∧ c.toNat ≤ 57))
/-- a test of bytes that keeps a bool: is this one right, and what is kept -/
def eachRun (f : Bool → UInt8 → Bool × Bool) : Bool → List UInt8 → Bool × Bool
  | st, [] => (true, st)
  | st, c :: r => bif (f st c).1 then eachRun f (f st c).2 r else (false, (f st c).2)
def stepA (dot : Bool) (c : UInt8) : Bool × Bool := ((c == 46) && !dot || !(c == 46) && (letterB c || signsL.contains c), c == 46)
def stepQ (marked : Bool) (c : UInt8) : Bool × Bool := (decide (32 ≤ c.toNat ∧ c.toNat ≤ 126) && (marked || !(c == 34)), (c == 92) && !marked)
def atomsB (s : List UInt8) : Bool := (eachRun stepA true s).1 && !(eachRun stepA true s).2
/-- a text without a first byte, a last byte -/
def cutPre (p : UInt8) (s : List UInt8) : List UInt8 × Bool := match s with
  | c :: r => if c = p then (r, true) else (s, false)
  | [] => ([], false)
def cutSuf (p : UInt8) (s : List UInt8) : List UInt8 × Bool := if s.getLast? = some p then (s.dropLast, true) else (s, false)
def quotedB (s : List UInt8) : Bool :=
  (cutPre 34 s).2 && ((cutSuf 34 (cutPre 34 s).1).2 && ((eachRun stepQ false (cutSuf 34 (cutPre 34 s).1).1).1 && !(eachRun stepQ false (cutSuf 34 (cutPre 34 s).1).1).2))
/-- the place of the last @, and one more; 0: there is none -/
def lastAt : List UInt8 → Nat
  | [] => 0
  | c :: r => bif Nat.beq (lastAt r) 0 then (if c = 64 then 1 else 0) else lastAt r + 1
theorem lastAt_le : ∀ (s : List UInt8), lastAt s ≤ s.length
  | [] => by simp [lastAt]
  | c :: r => by
    have h := lastAt_le r
    unfold lastAt
    cases e : Nat.beq (lastAt r) 0
    · simp; omega
    · simp; split <;> omega
def locOk (s : List UInt8) : Bool := decide (2 ≤ lastAt s ∧ lastAt s ≤ 65) && (!(s.getLast? == some 46) && (atomsB (s.take (lastAt s - 1)) || quotedB (s.take (lastAt s - 1))))
def parseB (s : List UInt8) : Bool := locOk s && may (folded (s.drop (lastAt s)))
def locL (s : List UInt8) : List UInt8 := s.take (lastAt s - 1)
def domL (s : List UInt8) : List UInt8 := folded (s.drop (lastAt s))
def parseV (s : List UInt8) : Value := bif parseB s then .tuple #[.string ⟨(locL s).toArray⟩, .string ⟨(domL s).toArray⟩, .int .i64 0] else .tuple #[.string ⟨#[]⟩, .string ⟨#[]⟩, .int .i64 4]
theorem parseV_true {s : List UInt8} (h : parseB s = true) : parseV s = .tuple #[.string ⟨(locL s).toArray⟩, .string ⟨(domL s).toArray⟩, .int .i64 0] := by unfold parseV; rw [h]; rfl
theorem parseV_false {s : List UInt8} (h : parseB s = false) : parseV s = .tuple #[.string ⟨#[]⟩, .string ⟨#[]⟩, .int .i64 4] := by unfold parseV; rw [h]; rfl
def sameB (a b : List UInt8) : Bool := parseB a && (parseB b && ((locL a == locL b) && (domL a == domL b)))
def pathL (s : List UInt8) : List UInt8 := bif (s.isEmpty || parseB s) then 60 :: s ++ [62] else []
end Go.Proofs.YtehkdbgoeakgbaaGreatDoor
