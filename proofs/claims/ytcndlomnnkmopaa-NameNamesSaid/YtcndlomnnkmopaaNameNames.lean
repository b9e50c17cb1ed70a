/- NameNames: the walk. -/
import Derived.Test.YtcndlomnnkmopaaNameM
import Derived.Test.YtcndlomnnkmopaaNameK
import Derived.Test.YtcndlomnnkmopaaNameStar
import Derived.Test.YtcndlomnnkmopaaNameFolds
namespace Go.Proofs.Ytcndlomnnkmopaa
set_option linter.all false
open Go.RowKit Go.Shelf

def lblA : List UInt8 := List.replicate 63 97
def lblB : List UInt8 := List.replicate 61 98
def longN : List UInt8 := lblA ++ 46 :: (lblA ++ 46 :: (lblA ++ 46 :: lblB))
theorem longN_len : longN.length = 253 := by kernel_rfl
theorem longN_may : may longN = true := by kernel_rfl
theorem lblA_may : may lblA = true := by kernel_rfl
theorem lblA_bad : may (lblA ++ [97]) = false := by kernel_rfl
theorem longN_b : may (longN ++ [98]) = false := may_long (by rw [List.length_append, longN_len]; decide)
theorem longN_c : may (99 :: 46 :: longN) = false := may_long (by simp [longN_len])

def badN : List (List UInt8) := [[46], [97, 46], [46, 97], [65], [97, 95, 98], [97, 32, 98], [42], [42, 46, 97], [97, 46, 42], [97, 46, 45], [45, 45], [49], [97, 46, 48, 48], [128], [97, 0], [97, 44, 98], [97, 46, 98, 46, 45, 99]]
def goodN : List (List UInt8) := [[97], [49, 46, 97], [97, 45, 98], [97, 45, 45, 98], [49, 97], [48, 45, 48, 46, 120], [97, 46, 98, 46, 99, 46, 100, 46, 101], [97, 49]]
theorem badN_not : ∀ k (h : k < 17), may (badN[k]'h) = false ∧ (badN[k]'h).length ≤ 1000 := by
  have : badN.all (fun l => !may l && decide (l.length ≤ 1000)) = true := by kernel_rfl
  intro k h
  have h2 := List.all_eq_true.1 this (badN[k]'h) (List.getElem_mem _)
  simp only [Bool.and_eq_true, Bool.not_eq_true', decide_eq_true_eq] at h2
  exact h2
theorem goodN_is : ∀ k (h : k < 8), may (goodN[k]'h) = true ∧ (goodN[k]'h).length ≤ 1000 := by
  have : goodN.all (fun l => may l && decide (l.length ≤ 1000)) = true := by kernel_rfl
  intro k h
  have h2 := List.all_eq_true.1 this (goodN[k]'h) (List.getElem_mem _)
  simp only [Bool.and_eq_true, decide_eq_true_eq] at h2
  exact h2
theorem parent_no {l : List UInt8} (h : may l = false) : parentV l = .tuple #[.string ⟨#[]⟩, .bool false] := by unfold parentV; rw [h]; simp
theorem under_no {p l : List UInt8} (h : may l = false) : underV p l = .tuple #[.string ⟨#[]⟩, .bool false] := by unfold underV; rw [h]; simp
theorem labels_no {l : List UInt8} (h : may l = false) : labels3 l = [] := by unfold labels3; rw [h]; rfl
theorem match_no {p l : List UInt8} (h : may l = false) : matches' p l = false := by unfold matches'; rw [h]; simp
theorem pat_st (l : List UInt8) : pat (42 :: 46 :: l) = may l := by unfold pat; rw [(trim_yes l).1]
theorem pat_self {l : List UInt8} (h : may l = true) : pat l = true := by unfold pat; rw [trim_no (may_star h), h]
theorem may_dot (l : List UInt8) : may (l ++ [46]) = false := by
  cases h : may (l ++ [46]) with
  | false => rfl
  | true =>
    have := may_nodot h
    rw [trim46_dot] at this
    have := congrArg List.length this
    simp at this
theorem may_stst (l : List UInt8) : may (42 :: 46 :: l) = false := by
  cases h : may (42 :: 46 :: l) with
  | false => rfl
  | true =>
    have := may_star h
    rw [(trim_yes l).2] at this; cases this
theorem pattern_is {l : List UInt8} {b : Bool} (hb : pat l = b) (w : World) (hl : l.length ≤ 1000000000) : Calls Try.prog 18 #[.string ⟨l.toArray⟩] w fun e w' => e = .returned (.bool b) ∧ Chg [] w w' := by rw [← hb]; exact pattern_any l w hl
theorem parent_is {l : List UInt8} {v : Value} (hb : parentV l = v) (w : World) (hl : l.length ≤ 1000000000) : Calls Try.prog 14 #[.string ⟨l.toArray⟩] w fun e w' => e = .returned v ∧ Chg [] w w' := by rw [← hb]; exact parent_any l w hl
theorem under_is {p l : List UInt8} {v : Value} (hb : underV p l = v) (w : World) (hp : p.length ≤ 1000000000) (hl : l.length ≤ 1000000000) : Calls Try.prog 16 #[.string ⟨p.toArray⟩, .string ⟨l.toArray⟩] w fun e w' => e = .returned v ∧ Chg [] w w' := by rw [← hb]; exact under_any p l w hp hl
theorem fold_dot {l : List UInt8} (h : may l = true) : foldV (l ++ [46]) = .tuple #[.string ⟨l.toArray⟩, .int .i64 0] := foldV_yes h (by unfold folded; rw [trim46_dot, may_low h])
theorem under_yes {p l : List UInt8} (h : may l = true) (h2 : p.length + l.length ≤ 253) : underV p l = .tuple #[.string ⟨(p ++ l).toArray⟩, .bool true] := by unfold underV; rw [h, decide_eq_true h2]; rfl
theorem under_over {p l : List UInt8} (h2 : 253 < p.length + l.length) : underV p l = .tuple #[.string ⟨#[]⟩, .bool false] := by unfold underV; rw [decide_eq_false (by omega)]; simp
theorem compare_is {a b : List UInt8} {r : Int} (h : Lib.compareBytes a b = r) (w : World) : Calls Try.prog 21 #[.string ⟨a.toArray⟩, .string ⟨b.toArray⟩] w fun e w' => e = .returned (.int .i64 r) ∧ w = w' := by rw [← h]; exact compare_any a b w

set_option maxRecDepth 100000 in
set_option maxHeartbeats 2000000 in
theorem nameNames_walk (w : World) :
    Calls Try.prog 9 #[] w fun e w' => e = .returned (.bool true) ∧ Below w.heap.size w w' := by
  have O := Own.start w
  obtain ⟨la, hla⟩ : ∃ l, l = lblA := ⟨_, rfl⟩
  obtain ⟨lb, hlb⟩ : ∃ l, l = lblB := ⟨_, rfl⟩
  obtain ⟨lg, hlg⟩ : ∃ l, l = longN := ⟨_, rfl⟩
  have lal : la.length = 63 := by rw [hla]; rfl
  have lbl : lb.length = 61 := by rw [hlb]; rfl
  have lgl : lg.length = 253 := by rw [hlg]; exact longN_len
  have LA := Lib.hid hla; have LB := Lib.hid hlb; have LG := Lib.hid hlg
  clear hla hlb hlg
  go_enter Try.func9, Try.ntmps9
  go_wp2_with fail
  refine (many_any 97 63 (by decide) _).mono ?_
  rw [show List.replicate 63 (97 : UInt8) = la from LA.out.symm]
  rintro e w1 ⟨rfl, ch⟩
  replace O := O.pure ch; clear ch
  go_wp2_with fail
  refine (many_any 98 61 (by decide) _).mono ?_
  rw [show List.replicate 61 (98 : UInt8) = lb from LB.out.symm]
  rintro e w2 ⟨rfl, ch⟩
  replace O := O.pure ch; clear ch
  go_wp2_with fail
  have JG : Hid (la ++ 46 :: (la ++ 46 :: (la ++ 46 :: lb)) = lg) := by unfold Hid; rw [LA.out, LB.out, LG.out]; rfl
  rw [JG.out]
  refine (awake_any _).mono ?_
  rintro e w3 ⟨rfl, ch⟩
  replace O := O.pure ch; clear ch
  go_wp2_with fail
  refine (may_is (b := true) (by rw [LG.out]; exact longN_may) _ (by omega)).mono ?_
  rintro e w4 ⟨rfl, ch⟩
  replace O := O.pure ch; clear ch
  go_wp2_with fail
  refine (may_is (b := false) (by rw [LG.out]; exact longN_b) _ (by simp; omega)).mono ?_
  rintro e w5 ⟨rfl, ch⟩
  replace O := O.pure ch; clear ch
  go_wp2_with fail
  refine (may_is (b := true) (by rw [LA.out]; exact lblA_may) _ (by omega)).mono ?_
  rintro e w6 ⟨rfl, ch⟩
  replace O := O.pure ch; clear ch
  go_wp2_with fail
  refine (may_is (b := false) (by rw [LA.out]; exact lblA_bad) _ (by simp; omega)).mono ?_
  rintro e w7 ⟨rfl, ch⟩
  replace O := O.pure ch; clear ch
  go_wp2_with fail
  refine (may_is (b := false) (by rw [LG.out]; exact longN_c) _ (by simp; omega)).mono ?_
  rintro e w8 ⟨rfl, ch⟩
  replace O := O.pure ch; clear ch
  obtain ⟨b1, hb1⟩ : ∃ b, b = w8.heap.size := ⟨_, rfl⟩
  replace O := (O.newBox (badN.map str).toArray 9)
  rw [← hb1] at O
  go_wp2_with fail
  rw [← hb1]
  clear hb1
  go_loopw [78] (fun iv wr => ∃ k : Nat, k ≤ 17 ∧ iv = .int .i64 k ∧ Own w wr [box b1 (badN.map str).toArray 9]) (fun iv _ => 17 - (intOf iv).toNat)
  case atStart => exact ⟨0, by omega, rfl, O⟩
  case round =>
    clear O
    obtain ⟨k, hk, rfl, O⟩ := hrel
    by_cases hlt : k < 17
    · have c := O.litCell k (by simpa [badN] using hlt)
      have hb1 : (k : Int) < 17 := by omega
      have hx := badN_not k hlt
      obtain ⟨x, hxx⟩ : ∃ x, x = badN[k]'hlt := ⟨_, rfl⟩
      rw [← hxx] at hx
      have c' : wr.cell? ⟨b1, k, none⟩ = some (.string ⟨x.toArray⟩) := by rw [hxx]; exact c
      obtain ⟨hx1, hx2⟩ := hx
      have X := Lib.hid hx1
      clear c hx1 hxx
      go_wp2_with fail
      clear c'
      refine (parent_is (parent_no X.out) _ (by omega)).mono ?_
      rintro e w9 ⟨rfl, ch⟩
      replace O := O.pure ch; clear ch
      go_wp2_with fail
      refine (under_is (under_no X.out) _ (by decide) (by omega)).mono ?_
      rintro e w9 ⟨rfl, ch⟩
      replace O := O.pure ch; clear ch
      go_wp2_with fail
      refine (may_is X.out _ (by omega)).mono ?_
      rintro e w9 ⟨rfl, ch⟩
      replace O := O.pure ch; clear ch
      go_wp2_with fail
      refine (labels_any O x (by omega)).mono ?_
      rw [labels_no X.out]
      clear O
      rintro e w9 ⟨v, rfl, O⟩
      obtain ⟨a, cap, rfl⟩ := O.shape
      replace O := O.drop
      go_wp2_with fail
      refine (match_any x x _ (by omega) (by omega) _ (match_no X.out)).mono ?_
      rintro e w9 ⟨rfl, ch⟩
      replace O := O.pure ch; clear ch
      go_wp2_with fail
      refine (match_any [97] x _ (by decide) (by omega) _ (match_no X.out)).mono ?_
      rintro e w9 ⟨rfl, ch⟩
      replace O := O.pure ch; clear ch
      go_wp2
      go_roundw
      case rel => exact ⟨k + 1, by omega, by go_num, O⟩
      case measure => simp [intOf]; omega
    · have hb1 : ¬ (k : Int) < 17 := by omega
      obtain ⟨b2, hb2⟩ : ∃ b, b = wr.heap.size := ⟨_, rfl⟩
      replace O := (O.newBox (goodN.map str).toArray 9)
      rw [← hb2] at O
      go_wp2_with fail
      rw [← hb2]
      clear hb2
      go_loopw [126] (fun iv wr => ∃ k : Nat, k ≤ 8 ∧ iv = .int .i64 k ∧ Own w wr [box b2 (goodN.map str).toArray 9, box b1 (badN.map str).toArray 9]) (fun iv _ => 8 - (intOf iv).toNat)
      case atStart => exact ⟨0, by omega, rfl, O⟩
      case round =>
        clear O hlt hb1 hk
        obtain ⟨k, hk, rfl, O⟩ := hrel
        by_cases hlt : k < 8
        · have c := O.litCell k (by simpa [goodN] using hlt)
          have hb1 : (k : Int) < 8 := by omega
          have hx := goodN_is k hlt
          obtain ⟨x, hxx⟩ : ∃ x, x = goodN[k]'hlt := ⟨_, rfl⟩
          rw [← hxx] at hx
          have c' : wr.cell? ⟨b2, k, none⟩ = some (.string ⟨x.toArray⟩) := by rw [hxx]; exact c
          obtain ⟨hx1, hx2⟩ := hx
          have X := Lib.hid hx1
          clear c hx1 hxx
          go_wp2_with fail
          clear c'
          refine (fold_is (fold_dot X.out) _ (by simp; omega)).mono ?_
          rintro e w9 ⟨rfl, ch⟩
          replace O := O.pure ch; clear ch
          go_wp2_with fail
          refine (may_is X.out _ (by omega)).mono ?_
          rintro e w9 ⟨rfl, ch⟩
          replace O := O.pure ch; clear ch
          go_wp2_with fail
          refine (match_any x x _ (by omega) (by omega) _ ((match_self x).trans X.out)).mono ?_
          rintro e w9 ⟨rfl, ch⟩
          replace O := O.pure ch; clear ch
          go_wp2_with fail
          refine (pattern_is (pat_self X.out) _ (by omega)).mono ?_
          rintro e w9 ⟨rfl, ch⟩
          replace O := O.pure ch; clear ch
          go_wp2_with fail
          refine (pattern_is ((pat_st x).trans X.out) _ (by simp; omega)).mono ?_
          rintro e w9 ⟨rfl, ch⟩
          replace O := O.pure ch; clear ch
          go_wp2_with fail
          refine (pattern_is (l := 42 :: 46 :: (x ++ [46])) ((pat_st (x ++ [46])).trans (may_dot x)) _ (by simp; omega)).mono ?_
          rintro e w9 ⟨rfl, ch⟩
          replace O := O.pure ch; clear ch
          go_wp2_with fail
          refine (pattern_is ((pat_st (42 :: 46 :: x)).trans (may_stst x)) _ (by simp; omega)).mono ?_
          rintro e w9 ⟨rfl, ch⟩
          replace O := O.pure ch; clear ch
          go_wp2
          go_roundw
          case rel => exact ⟨k + 1, by omega, by go_num, O⟩
          case measure => simp [intOf]; omega
        · have hb1 : ¬ (k : Int) < 8 := by omega
          go_wp2_with fail
          refine (fold_is (l := [97, 46, 46]) (foldV_no (by kernel_rfl)) _ (by decide)).mono ?_
          rintro e w9 ⟨rfl, ch⟩
          replace O := O.pure ch; clear ch
          go_wp2_with fail
          refine (fold_is (l := [46]) (foldV_no (by kernel_rfl)) _ (by decide)).mono ?_
          rintro e w9 ⟨rfl, ch⟩
          replace O := O.pure ch; clear ch
          go_wp2_with fail
          refine (fold_is (l := [97, 95, 98]) (foldV_no (by kernel_rfl)) _ (by decide)).mono ?_
          rintro e w9 ⟨rfl, ch⟩
          replace O := O.pure ch; clear ch
          go_wp2_with fail
          refine (fold_is (l := lg ++ [46]) (fold_dot (by rw [LG.out]; exact longN_may)) _ (by simp; omega)).mono ?_
          rintro e w9 ⟨rfl, ch⟩
          replace O := O.pure ch; clear ch
          go_wp2_with fail
          refine (under_is (p := []) (l := lg) (under_yes (by rw [LG.out]; exact longN_may) (by simp; omega)) _ (by decide) (by omega)).mono ?_
          rintro e w9 ⟨rfl, ch⟩
          replace O := O.pure ch; clear ch
          go_wp2_with fail
          refine (under_is (p := [120]) (l := lg) (under_over (by simp <;> omega)) _ (by decide) (by omega)).mono ?_
          rintro e w9 ⟨rfl, ch⟩
          replace O := O.pure ch; clear ch
          go_wp2_with fail
          refine (parent_is (l := [97, 46, 98, 46, 99]) (v := .tuple #[.string ⟨#[98, 46, 99]⟩, .bool true]) (by kernel_rfl) _ (by decide)).mono ?_
          rintro e w9 ⟨rfl, ch⟩
          replace O := O.pure ch; clear ch
          go_wp2_with fail
          refine (parent_is (l := [97]) (v := .tuple #[.string ⟨#[]⟩, .bool false]) (by kernel_rfl) _ (by decide)).mono ?_
          rintro e w9 ⟨rfl, ch⟩
          replace O := O.pure ch; clear ch
          go_wp2_with fail
          refine (pattern_is (b := true) ((pat_st lg).trans (by rw [LG.out]; exact longN_may)) _ (by simp <;> omega)).mono ?_
          rintro e w9 ⟨rfl, ch⟩
          replace O := O.pure ch; clear ch
          go_wp2_with fail
          refine (match_any [42, 46, 97] [42, 46, 97] _ (by decide) (by decide) false (by kernel_rfl)).mono ?_
          rintro e w9 ⟨rfl, ch⟩
          replace O := O.pure ch; clear ch
          go_wp2_with fail
          refine (compare_is (a := [97]) (b := [97, 46, 98]) (r := -1) (by kernel_rfl) _).mono ?_
          rintro e w9 ⟨rfl, rfl⟩
          go_wp2_with fail
          refine (compare_is (a := [98]) (b := [97, 46, 98]) (r := 1) (by kernel_rfl) _).mono ?_
          rintro e w9 ⟨rfl, rfl⟩
          go_wp2_with fail
          refine (compare_is (a := []) (b := []) (r := 0) (by kernel_rfl) _).mono ?_
          rintro e w9 ⟨rfl, rfl⟩
          go_wp2
          go_ret
          exact ⟨ret_bool (by simp), O.below⟩
end Go.Proofs.Ytcndlomnnkmopaa
