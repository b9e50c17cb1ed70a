/- frame: the document's bytes, number, may, Many. -/
import Derived.Test.YtdfkjjopekceoaaDoorFmT
namespace Go.Proofs.YtdfkjjopekceoaaDoor
set_option linter.all false
open Go.RowKit

def lebL (n : Int) (k : Nat) : List UInt8 := (List.range k).map (lebAt n)
theorem lebL_snoc (n : Int) (k : Nat) : lebL n (k + 1) = lebL n k ++ [lebAt n k] := by unfold lebL; rw [List.range_succ]; simp
theorem lebL_len (n : Int) (k : Nat) : (lebL n k).length = k := by unfold lebL; simp
theorem leb_byte (n : Int) (h0 : 0 ≤ n) (i : Nat) : IntKind.u8.wrap ((n / 256 ^ i).tmod 256) = ((lebAt n i).toNat : Int) := by
  have h1 : 0 ≤ n / 256 ^ i := Int.ediv_nonneg h0 (Int.le_of_lt (Int.pow_pos (by omega)))
  rw [leb_nat, Int.pow_mul, show (2 : Int) ^ 8 = 256 from rfl, Int.tmod_eq_emod_of_nonneg h1]
  simp [IntKind.wrap, IntKind.bits, IntKind.signed]
theorem leb_quo (n : Int) (h0 : 0 ≤ n) (h1 : n < 4611686018427387904) (i : Nat) : IntKind.i64.wrap ((n / 256 ^ i).tdiv 256) = n / 256 ^ (i + 1) ∧ 0 ≤ n / 256 ^ (i + 1) := by
  have hp : (0 : Int) < 256 ^ i := Int.pow_pos (by omega)
  have h2 : 0 ≤ n / 256 ^ i := Int.ediv_nonneg h0 (Int.le_of_lt hp)
  have h3 : n / 256 ^ i ≤ n := Int.ediv_le_self _ h0
  have h4 : n / 256 ^ (i + 1) = n / 256 ^ i / 256 := by rw [Int.pow_succ, Int.ediv_ediv_of_nonneg (Int.le_of_lt hp)]
  rw [h4, Int.tdiv_eq_ediv_of_nonneg h2]
  refine ⟨i64_wraps _ (by omega) (by omega), by omega⟩
set_option maxRecDepth 100000 in
set_option maxHeartbeats 2000000 in
theorem bytesR_own {w0 w : World} {L : List Piece} (O : Own w0 w L) (n : Int) (h0 : 0 ≤ n) (h1 : n < 4611686018427387904) (m : Nat) (hm : m ≤ 8) :
    Calls Tryd.prog 27 #[.int .i64 n, .int .i64 m] w fun e w' => e = .returned (.string ⟨(lebL n m).toArray⟩) ∧ Own w0 w' L := by
  go_enter Tryd.func27, Tryd.ntmps27
  go_wp2_with fail
  go_loopw [0, 5, 6] (fun nv sv iv wr => ∃ i : Nat, iv = .int .i64 i ∧ i ≤ m ∧ nv = .int .i64 (n / 256 ^ i) ∧ sv = .string ⟨(lebL n i).toArray⟩ ∧ Own w0 wr L) (fun _ _ iv _ => m - (intOf iv).toNat)
  case atStart => exact ⟨0, rfl, by omega, by simp, rfl, O⟩
  case round =>
    clear O
    obtain ⟨i, rfl, hi, rfl, rfl, O⟩ := hrel
    by_cases hlt : i < m
    · have hb1 : (i : Int) < (m : Int) := by omega
      have hy := leb_byte n h0 i
      obtain ⟨hq, hq0⟩ := leb_quo n h0 h1 i
      have hs := lebL_snoc n i
      have hl := lebL_len n i
      obtain ⟨c, hc⟩ : ∃ c, c = lebAt n i := ⟨_, rfl⟩
      obtain ⟨N, hN⟩ : ∃ N, N = n / 256 ^ i := ⟨_, rfl⟩
      obtain ⟨S, hS⟩ : ∃ S, S = lebL n i := ⟨_, rfl⟩
      rw [← hc, ← hN] at hy
      rw [← hN] at hq
      rw [← hc, ← hS] at hs
      rw [← hS] at hl
      rw [← hN, ← hS]
      obtain ⟨S2, hS2⟩ : ∃ S2, S2 = S ++ [c] := ⟨_, rfl⟩
      rw [← hS2] at hs
      have sm := run_sum S [c] S2 hS2 (by rw [hl]; simp; omega)
      have O1 := O.newBox (U8 [c]) 5
      have cv : (convert 49 9 (.slice (some ⟨wr.heap.size, 0, none⟩) 1 1)).run Tryd.prog (wr.alloc (.cells #[.int .u8 (c.toNat : Int)] 5)) = .ok (.string ⟨#[c]⟩) (wr.alloc (.cells #[.int .u8 (c.toNat : Int)] 5)) := O1.boxBytes 0 1 1 (by simp)
      have O2 := Lib.hid O1.drop
      have HSS := Lib.hid hs
      clear hs hS2 hS hc hN hl O1 O
      go_wp2
      exact ⟨⟨i + 1, by go_num, by omega, rfl, by rw [HSS.out], O2.out⟩, by simp [intOf]; omega⟩
    · have hb1 : ¬ (i : Int) < (m : Int) := by omega
      obtain rfl : i = m := by omega
      go_wp2
      go_ret
      exact ⟨rfl, O⟩
set_option maxRecDepth 100000 in
set_option maxHeartbeats 1000000 in
theorem numberR_any (l : List UInt8) (h4 : l.length ≤ 4) (w : World) : Calls Tryd.prog 30 #[.string ⟨l.toArray⟩] w fun e w' => e = .returned (.int .i64 (numL l)) ∧ w = w' := by
  have hw0 : IntKind.i64.wrap ((l.length : Int) - 1) = (l.length : Int) - 1 := by rw [IntWalk.i64_in _ (by omega)]
  go_enter Tryd.func30, Tryd.ntmps30
  go_wp2_with fail
  go_loopw [3, 4] (fun nv iv wr => ∃ k : Nat, iv = .int .i64 ((k : Int) - 1) ∧ k ≤ l.length ∧ nv = .int .i64 (numL (l.drop k)) ∧ wr = w) (fun _ iv _ => (intOf iv + 1).toNat)
  case atStart => exact ⟨l.length, rfl, by omega, by rw [List.drop_length]; rfl, rfl⟩
  case round =>
    obtain ⟨k, rfl, hk, rfl, rfl⟩ := hrel
    match k, hk with
    | 0, hk =>
      rw [List.drop_zero]
      have hb1 : ¬ (0 : Int) ≤ ((0 : Nat) : Int) - 1 := by omega
      go_wp2
      go_ret
      exact ⟨rfl, rfl⟩
    | k + 1, hk =>
      have e1 : (((k + 1 : Nat) : Int) - 1) = (k : Int) := by omega
      rw [e1]
      have hlt := numL_lt (l.drop (k + 1))
      have hp : 2 ^ (8 * (l.drop (k + 1)).length) ≤ 2 ^ 24 := Nat.pow_le_pow_right (by omega) (by simp; omega)
      have hc : l[k].toNat < 256 := l[k].toNat_lt
      have hd : numL (l.drop k) = l[k].toNat + 256 * numL (l.drop (k + 1)) := by
        rw [List.drop_eq_getElem_cons (by omega : k < l.length)]
        rfl
      obtain ⟨Q, hQ⟩ : ∃ Q, Q = numL (l.drop (k + 1)) := ⟨_, rfl⟩
      rw [← hQ] at hlt hd
      rw [← hQ]
      have hw1 : IntKind.i64.wrap ((Q : Int) * 256) = (Q : Int) * 256 := i64_wraps _ (by omega) (by omega)
      have hw2 : IntKind.i64.wrap ((Q : Int) * 256 + (l[k].toNat : Int)) = (Q : Int) * 256 + (l[k].toNat : Int) := i64_wraps _ (by omega) (by omega)
      have hw3 : IntKind.i64.wrap ((k : Int) - 1) = (k : Int) - 1 := by rw [IntWalk.i64_in _ (by omega)]
      have hkl : (k : Int) < (l.length : Int) := by omega
      have hkl2 : k < l.length := by omega
      have HD := Lib.hid hd
      have HB := Lib.hid (show Q < 2 ^ 24 ∧ l[k].toNat < 256 from ⟨by omega, hc⟩)
      clear hlt hp hd hQ hc e1
      go_wp2
      refine ⟨⟨k, rfl, by omega, ?_, trivial⟩, by simp [intOf]⟩
      have hq := HB.out
      rw [IntWalk.wrap64_in ((l[k].toNat : Nat) : Int) (by omega), IntWalk.wrap64_in _ (by omega), HD.out]
      push_cast
      rw [Int.mul_comm, Int.add_comm]
set_option maxRecDepth 100000 in
theorem mayR_any (age place : Int) (w : World) : Calls Tryd.prog 26 #[.int .i64 age, .int .i64 place] w fun e w' => e = .returned (.bool (mayB age place)) ∧ w = w' := by
  obtain ⟨r, hr⟩ : ∃ r, r = mayB age place := ⟨_, rfl⟩
  rw [← hr]
  have HR := Lib.hid hr
  clear hr
  by_cases h1 : 1 ≤ age
  rotate_left
  · have e : r = false := by rw [HR.out]; exact decide_eq_false (fun h => h1 h.1)
    subst e
    go_enter Tryd.func26, Tryd.ntmps26
    go_wp2
    go_ret
    exact ⟨rfl, rfl⟩
  by_cases h2 : age ≤ 4294967295
  rotate_left
  · have e : r = false := by rw [HR.out]; exact decide_eq_false (fun h => h2 h.2.1)
    subst e
    go_enter Tryd.func26, Tryd.ntmps26
    go_wp2
    go_ret
    exact ⟨rfl, rfl⟩
  by_cases h3 : 0 ≤ place
  rotate_left
  · have e : r = false := by rw [HR.out]; exact decide_eq_false (fun h => h3 h.2.2.1)
    subst e
    go_enter Tryd.func26, Tryd.ntmps26
    go_wp2
    go_ret
    exact ⟨rfl, rfl⟩
  by_cases h4 : place ≤ 1023
  rotate_left
  · have e : r = false := by rw [HR.out]; exact decide_eq_false (fun h => h4 (by omega))
    subst e
    go_enter Tryd.func26, Tryd.ntmps26
    go_wp2
    go_ret
    exact ⟨rfl, rfl⟩
  have e : r = true := by rw [HR.out]; exact decide_eq_true ⟨h1, h2, h3, by omega⟩
  subst e
  go_enter Tryd.func26, Tryd.ntmps26
  go_wp2
  go_ret
  exact ⟨rfl, rfl⟩
set_option maxRecDepth 100000 in
theorem many_all (n : Nat) (hn : n ≤ 9223372036854775807) (w : World) : Calls Tryd.prog 13 #[.int .i64 n] w fun e w' => e = .returned (.int .i64 (manyN n)) ∧ w = w' := by
  go_enter Tryd.func13, Tryd.ntmps13
  go_wp2
  go_ret
  refine ⟨?_, rfl⟩
  have e : ((n : Int) / 112 + ((n : Int) % 112 + 6 + 112 - 1) / 112) = ((manyN n : Nat) : Int) := by unfold manyN; omega
  rw [← e]
  rfl
set_option maxRecDepth 100000 in
theorem manyR_nat (n : Nat) (hn : n ≤ 9223372036854775807) (w : World) : Calls Tryd.prog 14 #[.int .i64 n] w fun e w' => e = .returned (.int .i64 (manyN n)) ∧ w = w' := by
  by_cases h : 112 < n % 112 + 6
  · have e : ((n : Int) / 112 + 2) = ((manyN n : Nat) : Int) := by unfold manyN; omega
    have hb : (112 : Int) < (n : Int) % 112 + 6 := by omega
    have E := Lib.hid e
    clear e h
    go_enter Tryd.func14, Tryd.ntmps14
    go_wp2
    go_ret
    exact ⟨by rw [← E.out]; rfl, rfl⟩
  · have e : ((n : Int) / 112 + 1) = ((manyN n : Nat) : Int) := by unfold manyN; omega
    have hb : ¬ (112 : Int) < (n : Int) % 112 + 6 := by omega
    have E := Lib.hid e
    clear e h
    go_enter Tryd.func14, Tryd.ntmps14
    go_wp2
    go_ret
    exact ⟨by rw [← E.out]; rfl, rfl⟩
set_option maxRecDepth 100000 in
theorem manyR_neg (n : Int) (hn : n < 0) (w : World) : Calls Tryd.prog 14 #[.int .i64 n] w fun e w' => e = .returned (.int .i64 0) ∧ w = w' := by
  go_enter Tryd.func14, Tryd.ntmps14
  go_wp2
  go_ret
  exact ⟨rfl, rfl⟩
end Go.Proofs.YtdfkjjopekceoaaDoor
