/- NameParts: the walk. -/
import Derived.Test.YtcndlomnnkmopaaNameK
import Derived.Test.YtcndlomnnkmopaaNameE
namespace Go.Proofs.Ytcndlomnnkmopaa
set_option linter.all false
open Go.RowKit Go.Shelf

def joinR (r : List (List UInt8)) : List UInt8 := r.flatMap fun x => 46 :: x
theorem joinR_snoc (r : List (List UInt8)) (y : List UInt8) : joinR (r ++ [y]) = joinR r ++ 46 :: y := by simp [joinR]
theorem cut46_join : ∀ (n : Nat) (s x : List UInt8) (r : List (List UInt8)), s.length ≤ n → cut46 s = x :: r → s = x ++ joinR r := by
  intro n
  induction n with
  | zero =>
    intro s x r hn h
    obtain rfl := List.eq_nil_of_length_eq_zero (Nat.le_zero.1 hn)
    simp [cut46] at h
    obtain ⟨rfl, rfl⟩ := h; rfl
  | succ n ih =>
    intro s x r hn h
    obtain ⟨h1, ⟨rfl, rfl⟩ | ⟨b, rfl, hb⟩⟩ := cut46_cons h
    · simp [joinR]
    · cases r with
      | nil => exact absurd hb (cut46_ne b)
      | cons y r' =>
        have := ih b y r' (by simp at hn; omega) hb
        rw [this]; simp [joinR]
theorem may_lx {x : List UInt8} (h : labelOk x = true) (h46 : 46 ∉ x) : may (x ++ [46, 120]) = true := by
  have hc : cut46 (x ++ [46, 120]) = [x, [120]] := cut46_dot h46 [120]
  unfold may
  have hl : x.length ≤ 63 := by
    unfold labelOk at h; simp only [Bool.and_eq_true, decide_eq_true_eq] at h; omega
  have h2 : labelOk [120] = true := by decide
  have h3 : ([120] : List UInt8).all dig = false := by decide
  simp only [hc]
  rw [decide_eq_true (by simp <;> omega)]
  simp [h, h2, h3]
theorem may_tl {l : List UInt8} (h : may l = true) (hh : has46 l = true) : may (tl46 l) = true := by
  have hc := cut46_eq l
  rw [hh] at hc
  simp only [if_true] at hc
  unfold may at h ⊢
  simp only [Bool.and_eq_true, decide_eq_true_eq, Bool.not_eq_true'] at h ⊢
  obtain ⟨⟨h1, h2⟩, h3⟩ := h
  refine ⟨⟨Nat.le_trans (tl46_le l) h1, ?_⟩, ?_⟩
  · rw [hc] at h2; simp at h2; simpa using h2.2
  · have e : (cut46 l).getLast (cut46_ne l) = (cut46 (tl46 l)).getLast (cut46_ne _) := by
      have : (hd46 l :: cut46 (tl46 l)).getLast (by simp) = (cut46 (tl46 l)).getLast (cut46_ne _) := List.getLast_cons (cut46_ne _)
      rw [← this]
      congr 1
    rw [← e]; exact h3
theorem cut_mem (l : List UInt8) : ∀ p ∈ cut46 l, 46 ∉ p := by
  intro p hp
  obtain ⟨k, hk, rfl⟩ := List.mem_iff_getElem.1 hp
  obtain ⟨e, -⟩ := sfx_at l k hk
  cases hc : cut46 (sfx l k) with
  | nil => exact absurd hc (cut46_ne _)
  | cons a r =>
    have h2 := sfx_cut l k hk
    rw [hc, List.drop_eq_getElem_cons hk] at h2
    simp only [List.cons.injEq] at h2
    rw [← h2.1]
    exact (cut46_cons hc).1
/-- a name's labels, and its parent's -/
theorem parts_pack {s : List UInt8} (h : may s = true) : ∃ (x : List UInt8) (r : List (List UInt8)) (p : List UInt8) (is : Bool), labels3 s = x :: r ∧ s = x ++ joinR r ∧ (∀ y ∈ x :: r, may (y ++ [46, 120]) = true ∧ y.length ≤ 63) ∧
    parentV s = .tuple #[.string ⟨p.toArray⟩, .bool is] ∧ labels3 p = r ∧ p.length ≤ s.length ∧ is = decide (0 < r.length) ∧ r.length ≤ s.length := by
  have hl : labels3 s = cut46 s := by unfold labels3; rw [h]; rfl
  have hok : ∀ y ∈ cut46 s, labelOk y = true := by
    have h' := h
    unfold may at h'
    simp only [Bool.and_eq_true, List.all_eq_true] at h'
    exact h'.1.2
  have hlen := cut46_len s
  cases hc : cut46 s with
  | nil => exact absurd hc (cut46_ne s)
  | cons x r =>
    have hy : ∀ y ∈ x :: r, may (y ++ [46, 120]) = true ∧ y.length ≤ 63 := by
      intro y hy
      rw [← hc] at hy
      have h1 := hok y hy
      refine ⟨may_lx h1 (cut_mem s y hy), ?_⟩
      unfold labelOk at h1; simp only [Bool.and_eq_true, decide_eq_true_eq] at h1; omega
    have hj := cut46_join s.length s x r (Nat.le_refl _) hc
    rw [hc] at hlen hl
    simp only [List.length_cons] at hlen
    have he := cut46_eq s
    rw [hc] at he
    cases hh : has46 s
    · rw [hh] at he
      simp at he
      obtain ⟨rfl, rfl⟩ := he
      refine ⟨x, [], [], false, hl, hj, hy, by unfold parentV; rw [hh]; rfl, by unfold labels3; rfl, by simp, by simp, by simp⟩
    · rw [hh] at he
      simp at he
      obtain ⟨rfl, rfl⟩ := he
      refine ⟨_, _, tl46 s, true, hl, hj, hy, by unfold parentV; rw [hh, h]; rfl, by unfold labels3; rw [may_tl h hh]; rfl, tl46_le s, ?_, by omega⟩
      symm; rw [decide_eq_true_eq]
      exact List.length_pos_iff.2 (cut46_ne _)
def allTo (x : List UInt8) (r : List (List UInt8)) (k : Nat) : List UInt8 := if k = 0 then [] else x ++ joinR (r.take (k - 1))
theorem allTo_succ {x : List UInt8} {r : List (List UInt8)} {k : Nat} (hk : k < (x :: r).length) (h0 : k ≠ 0) : allTo x r k ++ [46] ++ (x :: r)[k] = allTo x r (k + 1) := by
  unfold allTo
  rw [if_neg h0, if_neg (by omega)]
  obtain ⟨m, rfl⟩ : ∃ m, k = m + 1 := ⟨k - 1, by omega⟩
  simp only [List.length_cons, Nat.add_sub_cancel] at hk ⊢
  rw [List.take_succ_eq_append_getElem (by omega), joinR_snoc]
  simp

theorem allTo_le (x : List UInt8) (r : List (List UInt8)) (k : Nat) : (allTo x r k).length ≤ (x ++ joinR r).length := by
  unfold allTo; split
  · simp
  · have : joinR r = joinR (r.take (k - 1)) ++ joinR (r.drop (k - 1)) := by
      unfold joinR; rw [← List.flatMap_append, List.take_append_drop]
    rw [this]; simp <;> omega
set_option maxRecDepth 100000 in
set_option maxHeartbeats 1000000 in
theorem nameParts_walk (s : List UInt8) (hs : s.length ≤ 140737488351232) (w : World) :
    Calls Try.prog 8 #[.string ⟨s.toArray⟩] w fun e w' => e = .returned (.bool true) ∧ Below w.heap.size w w' := by
  have O := Own.start w
  by_cases h5 : 5000 < (s.length : Int)
  · go_enter Try.func8, Try.ntmps8
    go_wp2_with fail
    refine (awake_any _).mono ?_
    rintro e w2 ⟨rfl, ch2⟩
    go_wp2
    go_ret
    exact ⟨rfl, (O.pure ch2).below⟩
  have ls : s.length ≤ 5000 := by omega
  go_enter Try.func8, Try.ntmps8
  go_wp2_with fail
  refine (awake_any _).mono ?_
  rintro e w2 ⟨rfl, ch2⟩
  replace O := O.pure ch2; clear ch2
  go_wp2_with fail
  refine (labels_any O s (by omega)).mono ?_
  cases hm : may s
  · have HM := Lib.hid hm
    rw [show labels3 s = [] from by unfold labels3; rw [hm]; rfl]
    clear hm O
    rintro e w3 ⟨v, rfl, O⟩
    obtain ⟨a, cap, rfl⟩ := O.shape
    go_wp2_with fail
    refine (may_is HM.out _ (by omega)).mono ?_
    rintro e w4 ⟨rfl, ch4⟩
    go_wp2
    go_ret
    exact ⟨rfl, (O.pure ch4).below⟩
  · obtain ⟨x, r, p, is, h1, h2, h3, h4, h6, h7, h8, h9⟩ := parts_pack hm
    have HM := Lib.hid hm; have H2 := Lib.hid h2; have H3 := Lib.hid h3; have H4 := Lib.hid h4; have H6 := Lib.hid h6; have H8 := Lib.hid h8
    rw [h1]
    clear hm h1 h2 h3 h4 h6 h8 O
    rintro e w3 ⟨v, rfl, O⟩
    obtain ⟨m, hmr⟩ : ∃ m, m = r.length := ⟨_, rfl⟩
    obtain ⟨g, cap, hv⟩ := O.shapeNe (by simp)
    rw [List.length_cons, ← hmr] at hv
    rw [← hmr] at h9
    subst hv
    have HMR := Lib.hid hmr; clear hmr
    go_wp2_with fail
    refine (may_is HM.out _ (by omega)).mono ?_
    rintro e w4 ⟨rfl, ch4⟩
    replace O := O.pure ch4; clear ch4
    go_wp2_with fail
    go_loopw [4, 5] (fun av iv wr => ∃ (k : Nat) (al : List UInt8), k ≤ m + 1 ∧ iv = .int .i64 k ∧ av = .string ⟨al.toArray⟩ ∧ al = allTo x r k ∧ Own w wr [strs (.slice (some ⟨g, 0, none⟩) (m + 1) cap) (x :: r)]) (fun _ iv _ => m + 1 - (intOf iv).toNat)
    case atStart => exact ⟨0, [], by omega, rfl, rfl, rfl, O⟩
    case round =>
      clear O
      obtain ⟨k, al, hk, rfl, rfl, hal, O⟩ := hrel
      have HA := Lib.hid hal; clear hal
      by_cases hlt : k < m + 1
      · have hkc : k < (x :: r).length := by have := HMR.out; simp; omega
        have hb1 : (k : Int) < (m : Int) + 1 := by omega
        obtain ⟨-, cm, -⟩ := O.readRow k hkc
        have HY := Lib.hid (H3.out _ (List.getElem_mem hkc))
        have HS := Lib.hid (fun h0 : k ≠ 0 => allTo_succ hkc h0)
        have HS0 : Hid (k = 0 → al = [] ∧ (x :: r)[k] = allTo x r (k + 1)) := by
          intro h0; subst h0
          exact ⟨HA.out.trans rfl, by simp [allTo, joinR]⟩
        obtain ⟨y, hy⟩ : ∃ y, y = (x :: r)[k] := ⟨_, rfl⟩
        rw [← hy] at cm HY HS HS0
        clear hy hkc
        have hyl := HY.out.2
        have hall : al.length ≤ s.length := by rw [HA.out, H2.out]; exact allTo_le _ _ _
        by_cases h0 : k = 0
        · have hb2 : ¬ (0 : Int) < (k : Int) := by omega
          obtain ⟨rfl, e⟩ := HS0.out h0
          have E := Lib.hid e
          clear HS HS0 h0 e HA
          go_wp2_with fail
          refine (may_is (HY.out.1) _ (by have := HY.out.2; simp; omega)).mono ?_
          rintro e w5 ⟨rfl, ch5⟩
          replace O := O.pure ch5; clear ch5
          go_wp2
          go_roundw
          case rel => exact ⟨k + 1, _, by omega, by go_num, rfl, E.out, O⟩
          case measure => simp [intOf]; omega
        · have hb2 : (0 : Int) < (k : Int) := by omega
          have E := Lib.hid (HS.out h0)
          rw [← HA.out, List.append_assoc] at E
          clear HS h0 HS0 HA
          go_wp2_with fail
          refine (may_is (HY.out.1) _ (by have := HY.out.2; simp; omega)).mono ?_
          rintro e w5 ⟨rfl, ch5⟩
          replace O := O.pure ch5; clear ch5
          go_wp2
          go_roundw
          case rel => exact ⟨k + 1, _, by omega, by go_num, rfl, E.out, O⟩
          case measure => simp [intOf]; omega
      · have hb1 : ¬ (k : Int) < (m : Int) + 1 := by omega
        obtain rfl : k = m + 1 := by omega
        have E0 : al = s := by rw [HA.out, allTo, if_neg (by omega), Nat.add_sub_cancel, HMR.out, List.take_length]; exact H2.out.symm
        subst E0
        go_wp2_with fail
        refine (parent_any al _ (by omega)).mono ?_
        rw [H4.out]
        rintro e w5 ⟨rfl, ch5⟩
        replace O := O.pure ch5; clear ch5
        go_wp2_with fail
        refine (labels_any O p (by omega)).mono ?_
        rw [H6.out]
        clear O
        rintro e w6 ⟨v, rfl, O⟩
        obtain ⟨a2, cap2, hv⟩ := O.shape
        rw [← HMR.out] at hv
        subst hv
        have e1 : is = decide ((1 : Int) < (m : Int) + 1) := by
          rw [H8.out]
          by_cases q : 0 < r.length
          · rw [decide_eq_true q, decide_eq_true (by have := HMR.out; omega)]
          · rw [decide_eq_false q, decide_eq_false (by have := HMR.out; omega)]
        subst e1
        go_wp2_with fail
        go_loopw [9] (fun iv wr => ∃ (j n : Nat), j ≤ m ∧ iv = .int .i64 j ∧ Own w wr [strs (.slice a2 m cap2) r, strs (.slice (some ⟨g, 0, none⟩) (m + 1) cap) (x :: r)]) (fun iv _ => m - (intOf iv).toNat)
        case atStart => exact ⟨0, 0, by omega, rfl, O⟩
        case round =>
          clear O
          obtain ⟨j, n, hj, rfl, O⟩ := hrel
          by_cases hlt : j < m
          · have hlr : j < r.length := by have := HMR.out; omega
            obtain ⟨g2, c2, hv⟩ := O.shapeNe (by omega)
            simp only [Value.slice.injEq] at hv
            obtain ⟨rfl, -, rfl⟩ := hv
            obtain ⟨-, c1, -⟩ := O.readRow j hlr
            obtain ⟨-, c3, -⟩ := (O.pick 1).readRow (j + 1) (by simp; omega)
            simp only [List.getElem_cons_succ] at c3
            have hb1' : (j : Int) < (m : Int) := by omega
            have s1 : IntKind.i64.wrap ((j : Int) + 1) = (j : Int) + 1 := IntWalk.i64_in _ (by omega)
            generalize r[j] = y at c1 c3
            clear hlr
            go_wp2
            go_quiet (fail)
            go_wp2
            go_roundw
            case rel => exact ⟨j + 1, 0, by omega, by go_num, O.drewN _⟩
            case measure => simp [intOf]; omega
          · have hb1' : ¬ (j : Int) < (m : Int) := by omega
            go_wp2
            go_ret
            exact ⟨rfl, O.below⟩
end Go.Proofs.Ytcndlomnnkmopaa
