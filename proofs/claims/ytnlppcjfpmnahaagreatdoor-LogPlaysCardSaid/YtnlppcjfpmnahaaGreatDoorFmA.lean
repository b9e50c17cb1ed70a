/- frame: may, Many, put, number. -/
import Derived.Test.YtnlppcjfpmnahaaGreatDoorPack
import Derived.Lib.EndianBits
namespace Go.Proofs.YtnlppcjfpmnahaaGreatDoor
set_option linter.all false
open Go.RowKit

def mayB (age place : Int) : Bool := decide (1 ≤ age ∧ age ≤ 4294967295 ∧ 0 ≤ place ∧ place < 1024)
set_option maxRecDepth 100000 in
theorem may11_any (age place : Int) (w : World) : Calls Tryz.prog 69 #[.int .i64 age, .int .i64 place] w fun e w' => e = .returned (.bool (mayB age place)) ∧ w = w' := by
  obtain ⟨r, hr⟩ : ∃ r, r = mayB age place := ⟨_, rfl⟩
  rw [← hr]
  have HR := Lib.hid hr
  clear hr
  by_cases h1 : 1 ≤ age
  · by_cases h2 : age ≤ 4294967295
    · by_cases h3 : 0 ≤ place
      · by_cases h4 : place < 1024
        · have e : r = true := by rw [HR.out]; exact decide_eq_true ⟨h1, h2, h3, h4⟩
          subst e
          go_enter Tryz.func69, Tryz.ntmps69
          go_wp2
          go_ret
          exact ⟨rfl, rfl⟩
        · have e : r = false := by rw [HR.out]; exact decide_eq_false (fun h => h4 h.2.2.2)
          subst e
          go_enter Tryz.func69, Tryz.ntmps69
          go_wp2
          go_ret
          exact ⟨rfl, rfl⟩
      · have e : r = false := by rw [HR.out]; exact decide_eq_false (fun h => h3 h.2.2.1)
        subst e
        go_enter Tryz.func69, Tryz.ntmps69
        go_wp2
        go_ret
        exact ⟨rfl, rfl⟩
    · have e : r = false := by rw [HR.out]; exact decide_eq_false (fun h => h2 h.2.1)
      subst e
      go_enter Tryz.func69, Tryz.ntmps69
      go_wp2
      go_ret
      exact ⟨rfl, rfl⟩
  · have e : r = false := by rw [HR.out]; exact decide_eq_false (fun h => h1 h.1)
    subst e
    go_enter Tryz.func69, Tryz.ntmps69
    go_wp2
    go_ret
    exact ⟨rfl, rfl⟩
/-- how many sectors a record of n bytes has -/
def manyN (n : Nat) : Nat := n / 112 + (n % 112 + 117) / 112
set_option maxRecDepth 100000 in
theorem many_nat (n : Nat) (hn : n ≤ 9000000000000000000) (w : World) : Calls Tryz.prog 15 #[.int .i64 n] w fun e w' => e = .returned (.int .i64 (manyN n)) ∧ w = w' := by
  go_enter Tryz.func15, Tryz.ntmps15
  go_wp2
  go_ret
  refine ⟨?_, rfl⟩
  have e : ((n : Int) / 112 + ((n : Int) % 112 + 6 + 112 - 1) / 112) = ((manyN n : Nat) : Int) := by unfold manyN; omega
  rw [← e]
  rfl
set_option maxRecDepth 100000 in
theorem many_neg (n : Int) (hn : n < 0) (w : World) : Calls Tryz.prog 15 #[.int .i64 n] w fun e w' => e = .returned (.int .i64 0) ∧ w = w' := by
  go_enter Tryz.func15, Tryz.ntmps15
  go_wp2
  go_ret
  exact ⟨rfl, rfl⟩
def U8 (l : List UInt8) : Array Value := (l.map fun c => Value.int .u8 (c.toNat : Int)).toArray
/-- the i-th byte of a number, the least first -/
def lebAt (n : Int) (i : Nat) : UInt8 := UInt8.ofNat ((n / 2 ^ (8 * i)) % 256).toNat
def putAt (l : List UInt8) (off : Nat) (n : Int) : Nat → List UInt8
  | 0 => l
  | i + 1 => (putAt l off n i).set (off + i) (lebAt n i)
theorem putAt_len (l : List UInt8) (off : Nat) (n : Int) : ∀ i, (putAt l off n i).length = l.length
  | 0 => rfl
  | i + 1 => by rw [putAt, List.length_set, putAt_len l off n i]
theorem U8_set (l : List UInt8) (k : Nat) (c : UInt8) : (U8 l).setIfInBounds k (.int .u8 (c.toNat : Int)) = U8 (l.set k c) := by
  unfold U8
  rw [List.setIfInBounds_toArray, List.map_set]
set_option maxRecDepth 100000 in
set_option maxHeartbeats 1000000 in
theorem put_own {w0 w : World} {L : List Piece} {b : Nat} {l : List UInt8} {ty : TypeId} (O : Own w0 w (box b (U8 l) ty :: L)) (off len cap : Nat) (hl : off + len ≤ l.length) (h8 : len ≤ 8) (n : Int) :
    Calls Tryz.prog 70 #[.slice (some ⟨b, off, none⟩) len cap, .int .i64 n] w fun e w' => e = .returned (.tuple #[]) ∧ Own w0 w' (box b (U8 (putAt l off n len)) ty :: L) := by
  go_enter Tryz.func70, Tryz.ntmps70
  go_wp2_with fail
  go_loopw [7] (fun iv wr => ∃ i : Nat, iv = .int .i64 i ∧ i ≤ len ∧ Own w0 wr (box b (U8 (putAt l off n i)) ty :: L)) (fun iv _ => len - (intOf iv).toNat)
  case atStart => exact ⟨0, rfl, by omega, O⟩
  case round =>
    clear O
    obtain ⟨i, rfl, hi, O⟩ := hrel
    by_cases hlt : i < len
    · have hb1 : (i : Int) < (len : Int) := by omega
      have hpl := putAt_len l off n i
      obtain ⟨old, hold⟩ : ∃ v : UInt8, (putAt l off n i)[off + i]? = some v := by
        exact ⟨_, List.getElem?_eq_getElem (by omega)⟩
      have c0 : wr.cell? ⟨b, off + i, none⟩ = some (.int .u8 (old.toNat : Int)) := by
        rw [O.cell]; simp [U8, hold]
      have f0 := O.free (off + i)
      clear hpl hold
      have O2 := O.set (off + i) (.int .u8 ((lebAt n i).toNat : Int))
      rw [U8_set] at O2
      have eb : n / 2 ^ (8 * i) % 256 = ((lebAt n i).toNat : Int) := by
        unfold lebAt
        rw [UInt8.toNat_ofNat']
        have h1 : 0 ≤ n / 2 ^ (8 * i) % 256 := Int.emod_nonneg _ (by omega)
        have h2 : n / 2 ^ (8 * i) % 256 < 256 := Int.emod_lt_of_pos _ (by omega)
        omega
      have EB := Lib.hid eb
      clear eb O
      go_wp2
      rw [EB.out]
      exact ⟨⟨i + 1, by go_num, by omega, O2⟩, by simp [intOf]; omega⟩
    · have hb1 : ¬ (i : Int) < (len : Int) := by omega
      obtain rfl : i = len := by omega
      go_wp2
      go_end0
      exact ⟨rfl, O⟩
/-- the number of bytes, the least first -/
def numL (l : List UInt8) : Nat := match l with
  | [] => 0
  | c :: r => c.toNat + 256 * numL r
theorem numL_snoc : ∀ (a : List UInt8) (c : UInt8), numL (a ++ [c]) = numL a + c.toNat * 2 ^ (8 * a.length)
  | [], c => by simp [numL]
  | d :: r, c => by
    have h := numL_snoc r c
    show d.toNat + 256 * numL (r ++ [c]) = d.toNat + 256 * numL r + c.toNat * 2 ^ (8 * (r.length + 1))
    rw [h, Nat.mul_add, show 8 * (r.length + 1) = 8 * r.length + 8 from by omega, Nat.pow_add, ← Nat.add_assoc]
    congr 1
    rw [show (2 : Nat) ^ 8 = 256 from rfl, Nat.mul_comm 256, Nat.mul_assoc]
theorem numL_lt : ∀ (a : List UInt8), numL a < 2 ^ (8 * a.length)
  | [] => by simp [numL]
  | d :: r => by
    have h := numL_lt r
    have hd : d.toNat < 256 := d.toNat_lt
    show d.toNat + 256 * numL r < 2 ^ (8 * (r.length + 1))
    rw [show 8 * (r.length + 1) = 8 * r.length + 8 from by omega, Nat.pow_add]
    omega
theorem i64_wraps (n : Int) (h0 : 0 ≤ n) (h1 : n < 2 ^ 63) : IntKind.i64.wrap n = n := by
  have e : n % 2 ^ 64 = n := Int.emod_eq_of_lt (by omega) (by omega)
  simp only [IntKind.wrap, IntKind.bits, IntKind.signed, e]
  rw [if_neg]
  simp
  omega
theorem num_step (l : List UInt8) (h4 : l.length ≤ 4) {i : Nat} (hi : i < l.length) : bits BinOp.or IntKind.i64 (↑(numL (List.take i l))) (wrap64 (wrap64 ↑l[i].toNat * 2 ^ (8 * i))) = ((numL (l.take (i + 1)) : Nat) : Int) := by
  have hc : l[i].toNat < 256 := l[i].toNat_lt
  have hlt := numL_lt (l.take i)
  have hlen : (l.take i).length = i := by simp; omega
  rw [hlen] at hlt
  have hs := numL_snoc (l.take i) l[i]
  rw [← List.take_succ_eq_append_getElem hi, hlen] at hs
  rw [hs]
  have hp : 2 ^ (8 * i) ≤ 2 ^ 24 := Nat.pow_le_pow_right (by omega) (by omega)
  have hm : l[i].toNat * 2 ^ (8 * i) ≤ 255 * 2 ^ 24 := Nat.mul_le_mul (by omega) hp
  rw [IntWalk.wrap64_in ((l[i].toNat : Nat) : Int) (by omega)]
  have e : ((l[i].toNat : Nat) : Int) * 2 ^ (8 * i) = ((l[i].toNat * 2 ^ (8 * i) : Nat) : Int) := by push_cast; rfl
  rw [e, IntWalk.wrap64_in _ (by omega)]
  rw [bits_join_low .i64 63 (by decide) i64_wraps (8 * i) _ _ (by omega) (by exact_mod_cast hlt) (by omega) (by omega) (by
    have : (l[i].toNat * 2 ^ (8 * i)) % 2 ^ (8 * i) = 0 := Nat.mul_mod_left _ _
    exact_mod_cast this) (by omega)]
  push_cast
  rfl
set_option maxRecDepth 100000 in
set_option maxHeartbeats 1000000 in
theorem number_any (l : List UInt8) (h4 : l.length ≤ 4) (w : World) : Calls Tryz.prog 60 #[.string ⟨l.toArray⟩] w fun e w' => e = .returned (.int .i64 (numL l)) ∧ w = w' := by
  go_enter Tryz.func60, Tryz.ntmps60
  go_wp2_with fail
  go_loopw [3, 7] (fun nv iv wr => ∃ i : Nat, iv = .int .i64 i ∧ i ≤ l.length ∧ nv = .int .i64 (numL (l.take i)) ∧ wr = w) (fun _ iv _ => l.length - (intOf iv).toNat)
  case atStart => exact ⟨0, rfl, by omega, rfl, rfl⟩
  case round =>
    obtain ⟨i, rfl, hi, rfl, rfl⟩ := hrel
    by_cases hlt : i < l.length
    · have hb1 : (i : Int) < (l.length : Int) := by omega
      have hs := Lib.hid (num_step l h4 hlt)
      go_wp2
      exact ⟨⟨i + 1, by go_num, by omega, by rw [hs.out], trivial⟩, by simp [intOf]; omega⟩
    · have hb1 : ¬ (i : Int) < (l.length : Int) := by omega
      obtain rfl : i = l.length := by omega
      rw [List.take_length]
      go_wp2
      go_ret
      exact ⟨rfl, rfl⟩
end Go.Proofs.YtnlppcjfpmnahaaGreatDoor
