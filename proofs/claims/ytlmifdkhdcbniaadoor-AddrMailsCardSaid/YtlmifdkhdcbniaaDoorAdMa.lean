/- mailroomref04: text, envid. -/
import Derived.Test.YtlmifdkhdcbniaaDoorAdU
import Derived.Test.YtlmifdkhdcbniaaDoorAdQ
namespace Go.Proofs.YtlmifdkhdcbniaaDoor
set_option linter.all false
open Go.RowKit

/-- the document's test of a text, behind n bytes of a line -/
def textB : Nat → List UInt8 → Bool
  | n, [] => n == 0
  | _, [_] => false
  | n, c :: d :: t => if 512 < n + 1 then false else if c = 13 then (if d = 10 ∧ n + 1 ≤ 511 then textB 0 t else false) else if lc c = true then textB (n + 1) (d :: t) else false
theorem lc13 : lc 13 = false := by decide
theorem lc10 : lc 10 = false := by decide
theorem idx_at {s : List UInt8} {i : Nat} (h : Lib.index s crlf = (i : Int)) : ∃ t, s.drop i = 13 :: 10 :: t := by
  rcases Lib.index_spec s crlf with ⟨q, _⟩ | ⟨j, q1, q2, q3, _⟩
  · rw [q] at h; omega
  · obtain rfl : j = i := by rw [q1] at h; omega
    unfold Lib.occAt at q3
    obtain ⟨t, ht⟩ := List.isPrefixOf_iff_prefix.1 q3
    exact ⟨t, ht.symm⟩
theorem cut_here : ∀ (a t : List UInt8), a.all lc = true → cutL (a ++ 13 :: 10 :: t) = (a :: (cutL t).1, (cutL t).2)
  | [], t, _ => by show cutL (13 :: 10 :: t) = _; rw [cutL, if_pos ⟨rfl, rfl⟩]
  | [x], t, h => by
    have hx : x ≠ 13 := by rintro rfl; revert h; decide
    show cutL (x :: 13 :: 10 :: t) = _
    have ih := cut_here [] t rfl
    rw [List.nil_append] at ih
    rw [cutL, if_neg (fun e => hx e.1), ih]; rfl
  | x :: y :: a, t, h => by
    simp only [List.all_cons, Bool.and_eq_true] at h
    have hx : x ≠ 13 := by rintro rfl; exact absurd h.1 (by decide)
    show cutL (x :: y :: (a ++ 13 :: 10 :: t)) = _
    have ih := cut_here (y :: a) t (by simp [h.2.1, h.2.2])
    rw [cutL, if_neg (fun e => hx e.1), show y :: (a ++ 13 :: 10 :: t) = (y :: a) ++ 13 :: 10 :: t from rfl, ih]; rfl
theorem lines_here {a t : List UInt8} (h : a.all lc = true) : linesB (a ++ 13 :: 10 :: t) = (decide (a.length + 2 ≤ 512) && linesB t) := by
  unfold linesB; rw [cut_here a t h]; simp [lineB, h, Bool.and_assoc]
theorem first_line {a r : List UInt8} {c : UInt8} (ha : a.all lc = true) (hc : ¬ (c = 13 ∧ r.head? = some 10)) (h : linesB (a ++ c :: r) = true) : lc c = true ∧ a.length + 3 ≤ 512 := by
  rcases cutL_idx (a ++ c :: r) with ⟨_, h2⟩ | ⟨i, h1, h2, h3⟩
  · rw [linesB_none h2 (by simp)] at h; cases h
  · obtain ⟨t, ht⟩ := idx_at h1
    have hi : a.length < i := by
      rcases Nat.lt_or_ge a.length i with q | q
      · exact q
      · exfalso
        rw [List.drop_append_of_le_length q] at ht
        by_cases e : i = a.length
        · subst e
          simp at ht
          exact hc ⟨ht.1, by rw [ht.2]; rfl⟩
        · have hlt : i < a.length := by omega
          rw [List.drop_eq_getElem_cons hlt] at ht
          simp only [List.cons_append, List.cons.injEq] at ht
          have := List.all_eq_true.1 ha a[i] (List.getElem_mem hlt)
          rw [ht.1] at this
          exact absurd this (by decide)
    rw [linesB_some h3, Bool.and_eq_true] at h
    obtain ⟨h4, -⟩ := h
    unfold lineB at h4
    simp only [Bool.and_eq_true, decide_eq_true_eq, List.length_take] at h4
    have hlen : i + 2 ≤ (a ++ c :: r).length := h2
    refine ⟨?_, by omega⟩
    refine List.all_eq_true.1 h4.2 c ?_
    rw [List.mem_take_iff_getElem]
    exact ⟨a.length, by omega, by simp⟩
theorem textB_lines : ∀ (t a : List UInt8), a.all lc = true → a.length ≤ 512 → textB a.length t = linesB (a ++ t)
  | [], a, ha, _ => by
    rw [List.append_nil, textB]
    rcases cutL_idx a with ⟨_, h2⟩ | ⟨i, h1, h2, h3⟩
    · cases a with
      | nil => rfl
      | cons x a => rw [linesB_none h2 (by simp)]; rfl
    · obtain ⟨t, ht⟩ := idx_at h1
      have hm : (13 : UInt8) ∈ a := List.mem_of_mem_drop (i := i) (by rw [ht]; simp)
      have := List.all_eq_true.1 ha 13 hm
      exact absurd this (by decide)
  | [c], a, ha, _ => by
    rw [textB]
    symm
    cases hq : linesB (a ++ [c]) with
    | false => rfl
    | true =>
      exfalso
      rcases cutL_idx (a ++ [c]) with ⟨_, h2⟩ | ⟨i, h1, h2, h3⟩
      · rw [linesB_none h2 (by simp)] at hq; cases hq
      · obtain ⟨t, ht⟩ := idx_at h1
        have hi : i < a.length := by simp at h2; omega
        rw [List.drop_append_of_le_length (by omega), List.drop_eq_getElem_cons hi] at ht
        simp only [List.cons_append, List.cons.injEq] at ht
        have := List.all_eq_true.1 ha a[i] (List.getElem_mem hi)
        rw [ht.1] at this
        exact absurd this (by decide)
  | c :: d :: t, a, ha, hl => by
    rw [textB]
    by_cases h5 : 512 < a.length + 1
    · rw [if_pos h5]
      symm
      cases hq : linesB (a ++ c :: d :: t) with
      | false => rfl
      | true =>
        exfalso
        by_cases hc : c = 13 ∧ (d :: t).head? = some 10
        · obtain ⟨rfl, hd⟩ := hc
          simp at hd
          subst hd
          rw [lines_here ha, decide_eq_false (by omega)] at hq
          cases hq
        · have := first_line ha hc hq
          omega
    · rw [if_neg h5]
      by_cases hc : c = 13
      · subst hc
        rw [if_pos rfl]
        by_cases hd : d = 10
        · subst hd
          rw [lines_here ha]
          by_cases h6 : a.length + 1 ≤ 511
          · rw [if_pos ⟨rfl, h6⟩, decide_eq_true (by omega)]
            exact textB_lines t [] rfl (by simp)
          · rw [if_neg (fun e => h6 e.2), decide_eq_false (by omega)]; rfl
        · rw [if_neg (fun e => hd e.1)]
          symm
          cases hq : linesB (a ++ 13 :: d :: t) with
          | false => rfl
          | true => exact absurd (first_line ha (by simp [hd]) hq).1 (by decide)
      · rw [if_neg hc]
        by_cases hlc : lc c = true
        · rw [if_pos hlc]
          have ih := textB_lines (d :: t) (a ++ [c]) (by simp [ha, hlc]) (by simp; omega)
          rw [List.length_append, List.length_singleton, List.append_assoc] at ih
          exact ih
        · rw [if_neg hlc]
          symm
          cases hq : linesB (a ++ c :: d :: t) with
          | false => rfl
          | true => exact absurd (first_line ha (by simp [hc]) hq).1 hlc
theorem textB_start (s : List UInt8) : textB 0 s = linesB s := textB_lines s [] rfl (by simp)
theorem textB_end {s : List UInt8} {n i : Nat} (h : s.length ≤ i) : textB n (s.drop i) = (n == 0) := by
  rw [List.drop_of_length_le h]; rfl
theorem textB_at {s : List UInt8} {n i : Nat} (h : i < s.length) : textB n (s.drop i) = if 512 < n + 1 then false else if s[i] = 13 then (if h2 : i + 1 < s.length then (if s[i + 1] = 10 ∧ n + 1 ≤ 511 then textB 0 (s.drop (i + 2)) else false) else false) else if lc s[i] = true then textB (n + 1) (s.drop (i + 1)) else false := by
  rw [List.drop_eq_getElem_cons h]
  by_cases h2 : i + 1 < s.length
  · rw [dif_pos h2, List.drop_eq_getElem_cons h2, textB]
  · have q0 : textB (n + 1) [] = false := by simp [textB]
    have q1 : textB n [s[i]] = false := by rw [textB]
    rw [dif_neg h2, List.drop_of_length_le (by omega), q0, q1]; simp
theorem idc_yes {c : UInt8} (h : idc c = true) : (97 ≤ (c.toNat : Int) ∧ (c.toNat : Int) ≤ 122) ∨ ((c.toNat : Int) < 97 ∧ 65 ≤ (c.toNat : Int) ∧ (c.toNat : Int) ≤ 90) ∨ ((c.toNat : Int) < 65 ∧ 48 ≤ (c.toNat : Int) ∧ (c.toNat : Int) ≤ 57) ∨ ((c.toNat : Int) < 48 ∧ ((c.toNat : Int) == 45) = true) := by
  unfold idc at h
  rw [Bool.or_eq_true] at h
  rcases h with h | h
  · rcases letterB_yes c h with q | q | q
    · exact .inl q
    · exact .inr (.inl q)
    · exact .inr (.inr (.inl q))
  · have := b_is c 45 45 rfl
    rw [h] at this
    refine .inr (.inr (.inr ⟨?_, this⟩))
    have := eq_of_beq this; omega
theorem idc_no {c : UInt8} (h : idc c = false) : ((c.toNat : Int) == 45) = false ∧ (((c.toNat : Int) < 48 ∧ (c.toNat : Int) < 65 ∧ (c.toNat : Int) < 97) ∨ (57 < (c.toNat : Int) ∧ (c.toNat : Int) < 65 ∧ (c.toNat : Int) < 97 ∧ 48 ≤ (c.toNat : Int)) ∨ (90 < (c.toNat : Int) ∧ (c.toNat : Int) < 97 ∧ 57 < (c.toNat : Int) ∧ 65 ≤ (c.toNat : Int) ∧ 48 ≤ (c.toNat : Int)) ∨ (122 < (c.toNat : Int) ∧ 90 < (c.toNat : Int) ∧ 57 < (c.toNat : Int) ∧ 97 ≤ (c.toNat : Int) ∧ 65 ≤ (c.toNat : Int) ∧ 48 ≤ (c.toNat : Int))) := by
  unfold idc at h
  rw [Bool.or_eq_false_iff] at h
  refine ⟨(b_is c 45 45 rfl).trans h.2, ?_⟩
  rcases letterB_is c with q | ⟨-, h1, h2, h3⟩
  · rw [h.1] at q; cases q
  · omega
set_option maxRecDepth 100000 in
set_option maxHeartbeats 4000000 in
theorem envid_any (s : List UInt8) (hs : s.length ≤ 1000000) (w : World) : Calls Tryd.prog 53 #[.string ⟨s.toArray⟩] w fun e w' => e = .returned (.bool (decide (s.length ≤ 32) && s.all idc)) ∧ w' = w := by
  obtain ⟨r, hr⟩ : ∃ r, r = (decide (s.length ≤ 32) && s.all idc) := ⟨_, rfl⟩
  rw [← hr]
  have HR := Lib.hid hr
  clear hr
  go_enter Tryd.func53, Tryd.ntmps53
  go_wp2
  go_loopw [3] (fun iv wr => ∃ i : Nat, iv = .int .i64 i ∧ i ≤ s.length ∧ Hid ((s.take i).all idc = true) ∧ wr = w) (fun iv _ => s.length - (intOf iv).toNat)
  case atStart => exact ⟨0, rfl, by omega, rfl, rfl⟩
  case round =>
    obtain ⟨i, rfl, hi, HA, rfl⟩ := hrel
    by_cases hlt : i < s.length
    · have hb1 : (i : Int) < (s.length : Int) := by omega
      have NX : Hid ((s.take (i + 1)).all idc = idc s[i]) := by
        unfold Hid; rw [List.take_succ_eq_append_getElem hlt, List.all_append, HA.out]; simp
      have OFF : Hid (idc s[i] = false → r = false) := by
        intro h
        rw [HR.out]
        have : s.all idc = false := by
          rw [List.all_eq_false]; exact ⟨s[i], List.getElem_mem hlt, by simpa using h⟩
        rw [this]; simp
      rcases Bool.eq_false_or_eq_true (idc s[i]) with q | q
      · have NX2 : Hid ((s.take (i + 1)).all idc = true) := NX.out.trans q
        clear NX OFF
        rcases idc_yes q with ⟨h1, h2⟩ | ⟨h0, h1, h2⟩ | ⟨h0, h1, h2⟩ | ⟨h0, h1⟩
        rotate_right
        · have h3 : (s[i].toNat : Int) < 65 := by omega
          have h4 : (s[i].toNat : Int) < 97 := by omega
          clear q
          go_wp2
          go_roundw
          case rel => exact ⟨i + 1, by go_num, by omega, NX2, by trivial⟩
          case measure => simp [intOf]; omega
        · clear q
          go_wp2
          go_roundw
          case rel => exact ⟨i + 1, by go_num, by omega, NX2, by trivial⟩
          case measure => simp [intOf]; omega
        · clear q
          go_wp2
          go_roundw
          case rel => exact ⟨i + 1, by go_num, by omega, NX2, by trivial⟩
          case measure => simp [intOf]; omega
        · have h4 : (s[i].toNat : Int) < 97 := by omega
          clear q
          go_wp2
          go_roundw
          case rel => exact ⟨i + 1, by go_num, by omega, NX2, by trivial⟩
          case measure => simp [intOf]; omega
      · have fin : r = false := OFF.out q
        subst fin
        obtain ⟨h45, h⟩ := idc_no q
        clear q NX OFF HR
        rcases h with ⟨h1, h2, h3⟩ | ⟨h1, h2, h3, h4⟩ | ⟨h1, h2, h3, h4, h5⟩ | ⟨h1, h2, h3, h4, h5, h6⟩
        all_goals
          go_wp2
          · go_ret
            exact ⟨rfl, rfl⟩
          all_goals
            rename_i hx
            exfalso
            simp at hx
            omega
    · obtain rfl : i = s.length := by omega
      have E := HA.out
      rw [List.take_length] at E
      have R := HR.out
      rw [E, Bool.and_true] at R
      clear HR HA E
      by_cases h3 : s.length ≤ 32
      · have fin : r = true := by rw [R]; exact decide_eq_true h3
        have h3' : (s.length : Int) ≤ 32 := by omega
        subst fin
        clear R h3
        go_wp2
        go_ret
        exact ⟨rfl, rfl⟩
      · have fin : r = false := by rw [R]; exact decide_eq_false h3
        have h3' : ¬ (s.length : Int) ≤ 32 := by omega
        subst fin
        clear R h3
        go_wp2
        go_ret
        exact ⟨rfl, rfl⟩
set_option maxRecDepth 100000 in
set_option maxHeartbeats 4000000 in
theorem text_any (s : List UInt8) (hs : s.length ≤ 1000000) (w : World) : Calls Tryd.prog 54 #[.string ⟨s.toArray⟩] w fun e w' => e = .returned (.bool (linesB s)) ∧ w' = w := by
  have HR := Lib.hid (textB_start s)
  generalize linesB s = r at HR ⊢
  go_enter Tryd.func54, Tryd.ntmps54
  go_wp2
  go_loopw [3, 4] (fun nv iv wr => ∃ n i : Nat, nv = .int .i64 n ∧ iv = .int .i64 i ∧ i ≤ s.length ∧ n ≤ 512 ∧ Hid (textB n (s.drop i) = r) ∧ wr = w) (fun _ iv _ => s.length - (intOf iv).toNat)
  case atStart => exact ⟨0, 0, rfl, rfl, by omega, by omega, HR, rfl⟩
  case round =>
    obtain ⟨n, i, rfl, rfl, hi, hn, HT, rfl⟩ := hrel
    clear HR
    have s0 : IntKind.i64.wrap ((n : Int) + 1) = ((n + 1 : Nat) : Int) := by rw [IntWalk.i64_in _ (by omega)]; omega
    by_cases hlt : i < s.length
    · have hb1 : (i : Int) < (s.length : Int) := by omega
      have AT := Lib.hid ((textB_at hlt).symm.trans HT.out)
      by_cases h5 : n = 512
      · subst h5
        have fin : r = false := by rw [← AT.out, if_pos (by omega)]
        subst fin
        clear AT HT s0
        go_wp2
        go_ret
        exact ⟨rfl, rfl⟩
      have hn5 : ¬ (512 : Int) < ((n + 1 : Nat) : Int) := by omega
      have AT1 := AT.out
      rw [if_neg (by omega)] at AT1
      have AT := Lib.hid AT1
      clear AT1 HT
      have c13 := b_is s[i] 13 13 rfl
      have s1 : IntKind.i64.wrap ((i : Int) + 1) = ((i + 1 : Nat) : Int) := by rw [IntWalk.i64_in _ (by omega)]; omega
      by_cases hc : s[i] = 13
      · rw [show (s[i] == 13) = true by simpa using hc] at c13
        have AT1 := AT.out
        rw [if_pos hc] at AT1
        have AT := Lib.hid AT1
        clear AT1 hc
        by_cases h2 : i + 1 < s.length
        · have hb2 : ((i + 1 : Nat) : Int) < (s.length : Int) := by omega
          have hb3 : ¬ (s.length : Int) ≤ ((i + 1 : Nat) : Int) := by omega
          have hb4 : (i : Int) + 1 < (s.length : Int) := by omega
          have hb5 : ¬ (s.length : Int) ≤ (i : Int) + 1 := by omega
          have AT1 := AT.out
          rw [dif_pos h2] at AT1
          have AT := Lib.hid AT1
          clear AT1
          have c10 := b_is s[i + 1] 10 10 rfl
          by_cases hd : s[i + 1] = 10
          · rw [show (s[i + 1] == 10) = true by simpa using hd] at c10
            have c10' : ((s[i + 1].toNat : Int) != 10) = false := by rw [bne, c10]; rfl
            have AT1 := AT.out
            by_cases h6 : n = 511
            · subst h6
              rw [if_neg (by omega)] at AT1
              subst AT1
              clear AT hd s0
              go_wp2
              go_ret
              exact ⟨rfl, rfl⟩
            · rw [if_pos ⟨hd, by omega⟩] at AT1
              have AT := Lib.hid AT1
              clear AT1 hd
              have hn6 : ¬ (511 : Int) < ((n + 1 : Nat) : Int) := by omega
              have s2 : IntKind.i64.wrap (((i + 1 : Nat) : Int) + 1) = ((i + 2 : Nat) : Int) := by rw [IntWalk.i64_in _ (by omega)]; omega
              go_wp2
              go_roundw
              case rel => exact ⟨0, i + 2, rfl, by go_num, by omega, by omega, AT, by trivial⟩
              case measure => simp [intOf]; omega
          · rw [show (s[i + 1] == 10) = false by simpa using hd] at c10
            have c10' : ((s[i + 1].toNat : Int) != 10) = true := by rw [bne, c10]; rfl
            have AT1 := AT.out
            rw [if_neg (fun e => hd e.1)] at AT1
            subst AT1
            clear AT hd s0
            go_wp2
            go_ret
            exact ⟨rfl, rfl⟩
        · have hb3 : (s.length : Int) ≤ ((i + 1 : Nat) : Int) := by omega
          have hb5 : (s.length : Int) ≤ (i : Int) + 1 := by omega
          have AT1 := AT.out
          rw [dif_neg h2] at AT1
          subst AT1
          clear AT h2
          go_wp2
          go_ret
          exact ⟨rfl, rfl⟩
      · rw [show (s[i] == 13) = false by simpa using hc] at c13
        have AT1 := AT.out
        rw [if_neg hc] at AT1
        have AT := Lib.hid AT1
        clear AT1 hc
        have c9 := b_is s[i] 9 9 rfl
        have HLC : Hid (lc s[i] = ((s[i] == 9) || decide (32 ≤ s[i].toNat ∧ s[i].toNat ≤ 126))) := rfl
        rcases Bool.eq_false_or_eq_true (s[i] == 9) with q | q
        · rw [q] at c9
          have c9' : ((s[i].toNat : Int) != 9) = false := by rw [bne, c9]; rfl
          have AT1 := AT.out
          rw [if_pos (by rw [HLC.out, q]; rfl)] at AT1
          have AT := Lib.hid AT1
          clear AT1 q HLC
          go_wp2
          go_roundw
          case rel => exact ⟨n + 1, i + 1, by go_num, by go_num, by omega, by omega, AT, by trivial⟩
          case measure => simp [intOf]; omega
        · rw [q] at c9
          have c9' : ((s[i].toNat : Int) != 9) = true := by rw [bne, c9]; rfl
          by_cases r1 : (s[i].toNat : Int) < 32
          · have AT1 := AT.out
            rw [if_neg (by rw [HLC.out, q, decide_eq_false (by omega)]; simp)] at AT1
            subst AT1
            clear AT q HLC s0
            go_wp2
            go_ret
            exact ⟨rfl, rfl⟩
          · by_cases r2 : 126 < (s[i].toNat : Int)
            · have AT1 := AT.out
              rw [if_neg (by rw [HLC.out, q, decide_eq_false (by omega)]; simp)] at AT1
              subst AT1
              clear AT q HLC s0
              go_wp2
              go_ret
              exact ⟨rfl, rfl⟩
            · have AT1 := AT.out
              rw [if_pos (by rw [HLC.out, q, decide_eq_true (by omega)]; rfl)] at AT1
              have AT := Lib.hid AT1
              clear AT1 q HLC
              go_wp2
              go_roundw
              case rel => exact ⟨n + 1, i + 1, by go_num, by go_num, by omega, by omega, AT, by trivial⟩
              case measure => simp [intOf]; omega
    · obtain rfl : i = s.length := by omega
      have E := HT.out
      rw [textB_end (Nat.le_refl _)] at E
      clear HT
      by_cases h0 : n = 0
      · subst h0
        have fin : r = true := E.symm
        subst fin
        clear E s0
        go_wp2
        go_ret
        exact ⟨rfl, rfl⟩
      · have fin : r = false := by rw [← E]; simpa using h0
        subst fin
        have h0' : ((n : Int) == 0) = false := by simp; omega
        clear E s0
        go_wp2
        go_ret
        exact ⟨rfl, rfl⟩
end Go.Proofs.YtlmifdkhdcbniaaDoor
