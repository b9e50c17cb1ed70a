/- reply.Parse: what it answers. -/
import Derived.Test.YtghgiaokdbeepaaReplyA
namespace Go.Proofs.Ytghgiaokdbeepaa
set_option linter.all false
open Go.RowKit

def lo (k : Nat) : Nat := if k = 0 then 50 else 48
def hi (k : Nat) : Nat := if k = 2 then 57 else 53
def digOk (l : List UInt8) (k : Nat) : Bool := decide (lo k ≤ (l.getD k 0).toNat ∧ (l.getD k 0).toNat ≤ hi k)
def num (l : List UInt8) : Nat → Int
  | 0 => 0
  | k + 1 => 10 * num l k + ((l.getD k 0).toNat - 48)
structure Parsed where
  code : Int
  more : Bool
  text : List UInt8
  err : Int
def badLine : Parsed := ⟨0, false, [], 4⟩
def parse (l : List UInt8) : Parsed :=
  if l.length < 3 ∨ digOk l 0 = false ∨ digOk l 1 = false ∨ digOk l 2 = false then badLine
  else if l.length = 3 then ⟨num l 3, false, [], 0⟩
  else if ((l.getD 3 0).toNat = 45 ∨ (l.getD 3 0).toNat = 32) ∧ (l.drop 4).all okByte = true then ⟨num l 3, (l.getD 3 0).toNat == 45, l.drop 4, 0⟩
  else badLine
def parsedV (p : Parsed) : Value := .tuple #[.int .i64 p.code, .bool p.more, .string ⟨p.text.toArray⟩, .int .i64 p.err]

theorem getD_lt (l : List UInt8) (k : Nat) (h : k < l.length) : l.getD k 0 = l[k] := by simp [h]
theorem parse_bad {l : List UInt8} (h : l.length < 3 ∨ digOk l 0 = false ∨ digOk l 1 = false ∨ digOk l 2 = false) : parse l = badLine := by unfold parse; rw [if_pos h]
theorem parse_bad_at {l : List UInt8} {k : Nat} (hk : k < 3) (h : digOk l k = false) : parse l = badLine :=
  parse_bad (by obtain rfl | rfl | rfl : k = 0 ∨ k = 1 ∨ k = 2 := by omega
                all_goals simp [h])
theorem parse_go {l : List UInt8} (h3 : ¬ l.length < 3) (h : ∀ j, j < 3 → digOk l j = true) :
    parse l = if l.length = 3 then ⟨num l 3, false, [], 0⟩
      else if ((l.getD 3 0).toNat = 45 ∨ (l.getD 3 0).toNat = 32) ∧ (l.drop 4).all okByte = true then ⟨num l 3, (l.getD 3 0).toNat == 45, l.drop 4, 0⟩
      else badLine := by
  unfold parse; rw [if_neg (by simp [h 0 (by omega), h 1 (by omega), h 2 (by omega)]; omega)]
theorem num_succ (l : List UInt8) (k : Nat) (h : k < l.length) : num l (k + 1) = 10 * num l k + ((l[k].toNat : Int) - 48) := by rw [num, getD_lt l k h]
theorem digOk_or (l : List UInt8) (k : Nat) (h : k < l.length) :
    (digOk l k = false ∧ (l[k].toNat : Int) < lo k) ∨ (digOk l k = false ∧ (lo k : Int) ≤ l[k].toNat ∧ (hi k : Int) < l[k].toNat) ∨ (digOk l k = true ∧ (lo k : Int) ≤ l[k].toNat ∧ (l[k].toNat : Int) ≤ hi k) := by
  unfold digOk; rw [getD_lt l k h]
  simp only [decide_eq_true_eq, decide_eq_false_iff_not]
  omega
theorem lo0 : ((lo 0 : Nat) : Int) = 50 := rfl
theorem lo1 : ((lo 1 : Nat) : Int) = 48 := rfl
theorem lo2 : ((lo 2 : Nat) : Int) = 48 := rfl
theorem hi0 : ((hi 0 : Nat) : Int) = 53 := rfl
theorem hi1 : ((hi 1 : Nat) : Int) = 53 := rfl
theorem hi2 : ((hi 2 : Nat) : Int) = 57 := rfl
theorem all_next {l : List UInt8} {k : Nat} (h : ∀ j, j < k → digOk l j = true) (hk : digOk l k = true) : ∀ j, j < k + 1 → digOk l j = true := fun j hj => by
  by_cases e : j = k
  · rw [e]; exact hk
  · exact h j (by omega)
theorem ret_parsed {p q : Parsed} (h : p = q) : Ending.returned (parsedV p) = .returned (parsedV q) := by rw [h]

theorem parse_tail_bad {l : List UInt8} {c : UInt8} {b : Bool} (hp : parse l = if l.length = 3 then ⟨num l 3, false, [], 0⟩
      else if ((l.getD 3 0).toNat = 45 ∨ (l.getD 3 0).toNat = 32) ∧ (l.drop 4).all okByte = true then ⟨num l 3, (l.getD 3 0).toNat == 45, l.drop 4, 0⟩
      else badLine) (h4 : ¬ l.length = 3) (hg : l.getD 3 0 = c) (ht : (l.drop 4).all okByte = b) (h : b = false ∨ (¬ (c.toNat : Int) = 45 ∧ ¬ (c.toNat : Int) = 32)) : parse l = badLine := by
  rw [hp, if_neg h4, hg, ht, if_neg]
  rintro ⟨h1, h2⟩
  rcases h with h | h
  · rw [h] at h2; cases h2
  · omega
theorem parse_tail_ok {l : List UInt8} {c : UInt8} {m : Bool} (hp : parse l = if l.length = 3 then ⟨num l 3, false, [], 0⟩
      else if ((l.getD 3 0).toNat = 45 ∨ (l.getD 3 0).toNat = 32) ∧ (l.drop 4).all okByte = true then ⟨num l 3, (l.getD 3 0).toNat == 45, l.drop 4, 0⟩
      else badLine) (h4 : ¬ l.length = 3) (hg : l.getD 3 0 = c) (ht : (l.drop 4).all okByte = true) (h : (c.toNat = 45 ∧ m = true) ∨ (c.toNat = 32 ∧ m = false)) : parse l = ⟨num l 3, m, l.drop 4, 0⟩ := by
  rw [hp, if_neg h4, hg, ht, if_pos (by simp; omega)]
  rcases h with ⟨h1, rfl⟩ | ⟨h1, rfl⟩ <;> simp [h1]
theorem c3_or (c : UInt8) : ((c.toNat : Int) = 45 ∧ c.toNat = 45) ∨ (¬ (c.toNat : Int) = 45 ∧ (c.toNat : Int) = 32) ∨ (¬ (c.toNat : Int) = 45 ∧ ¬ (c.toNat : Int) = 32) := by omega

set_option maxHeartbeats 1000000 in
theorem parse_any (l : List UInt8) (w : World) (hs : l.length ≤ maxLen) :
    Calls Try.prog 10 #[.string ⟨l.toArray⟩] w fun e w' => e = .returned (parsedV (parse l)) ∧ Chg [] w w' := by
  unfold maxLen at hs
  by_cases h3 : l.length < 3
  · go_enter Try.func10, Try.ntmps10
    go_wp2
    exact bodyPost_ret (v := parsedV badLine) (by simp [results, Try.results10, go_sem, parsedV, badLine]) rfl ⟨by rw [parse_bad (.inl h3)], (Chg.refl _ _).alloc _⟩
  · have i0 : ∀ w, (Instr.index 64 (.agg #[.int .u8 50, .int .u8 53, .int .u8 48, .int .u8 53, .int .u8 48, .int .u8 57]) (.int .i64 0)).run Try.prog w = .ok (.agg #[.int .u8 50, .int .u8 53]) w := fun _ => by kernel_rfl
    have i1 : ∀ w, (Instr.index 64 (.agg #[.int .u8 50, .int .u8 53, .int .u8 48, .int .u8 53, .int .u8 48, .int .u8 57]) (.int .i64 1)).run Try.prog w = .ok (.agg #[.int .u8 48, .int .u8 53]) w := fun _ => by kernel_rfl
    have i2 : ∀ w, (Instr.index 64 (.agg #[.int .u8 50, .int .u8 53, .int .u8 48, .int .u8 53, .int .u8 48, .int .u8 57]) (.int .i64 2)).run Try.prog w = .ok (.agg #[.int .u8 48, .int .u8 57]) w := fun _ => by kernel_rfl
    go_enter Try.func10, Try.ntmps10
    go_wp2
    go_loopw [2, 17] (fun c i wr => ∃ k : Nat, k ≤ 3 ∧ i = .int .i64 k ∧ c = .int .i64 (num l k) ∧ (0 ≤ num l k ∧ num l k ≤ 10 ^ k - 1) ∧ (∀ j, j < k → digOk l j = true) ∧ Chg [] w wr) (fun _ i _ => 3 - (intOf i).toNat)
    case atStart => exact ⟨0, by omega, rfl, rfl, by simp [num], by simp, (Chg.refl _ _).alloc _⟩
    case round =>
      obtain ⟨k, hk, rfl, rfl, hn, hall, hch⟩ := hrel
      have H := Lib.hid hall; clear hall
      have HC := Lib.hid hch; clear hch
      by_cases hlt : k < 3
      · have hd := digOk_or l k (by omega)
        have hl0 : 0 < l.length := by omega
        have hl1 : (1 : Int) < (l.length : Int) := by omega
        have hl2 : (2 : Int) < (l.length : Int) := by omega
        have hs := Lib.hid (num_succ l k (by omega))
        obtain rfl | rfl | rfl : k = 0 ∨ k = 1 ∨ k = 2 := by omega
        all_goals
          simp only [lo0, lo1, lo2, hi0, hi1, hi2, Int.reducePow, Int.reduceSub] at hd hn
          obtain ⟨hn1, hn2⟩ := hn
          rcases hd with ⟨hd, ha⟩ | ⟨hd, ha, hb⟩ | ⟨hd, ha, hb⟩
          all_goals
            have HD := Lib.hid hd; clear hd
            go_wp2
            go_quiet (fail)
            go_wp2
            first
            | exact bodyPost_ret (v := parsedV badLine) (by simp [results, Try.results10, go_sem, parsedV, badLine]) rfl ⟨by rw [parse_bad_at (by omega) HD.out], ((HC.out.alloc _).drewN _)⟩
            | (go_roundw
               case rel => exact ⟨_, by omega, by go_num, by rw [hs.out], by rw [hs.out]; omega, all_next H.out HD.out, ((HC.out.alloc _).drewN _)⟩
               case measure => simp [intOf])
      · obtain rfl : k = 3 := by omega
        by_cases h4 : l.length = 3
        · have hp := Lib.hid (parse_go h3 H.out)
          have h4' : ((l.length : Int) == 3) = true := by simp [h4]
          go_wp2
          exact bodyPost_ret (v := parsedV ⟨num l 3, false, [], 0⟩) (by simp [results, Try.results10, go_sem, parsedV]) rfl ⟨by rw [hp.out, if_pos h4], HC.out⟩
        · have hp := Lib.hid (parse_go h3 H.out)
          have h4' : ((l.length : Int) == 3) = false := by simp; omega
          have hl3 : (3 : Int) < (l.length : Int) := by omega
          have hc := c3_or l[3]
          have hg := Lib.hid (getD_lt l 3 (by omega))
          have HL : (l.drop 4).length ≤ maxLen := by unfold maxLen; simp; omega
          cases ht : (l.drop 4).all okByte
          all_goals
            have HT := Lib.hid ht; clear ht
            rcases hc with ⟨hc, hc'⟩ | ⟨hc, hc'⟩ | ⟨hc, hc'⟩
            all_goals
              go_wp2
              go_quiet (fail)
              go_wp2_with (go_at_call 32; refine (plain_any (l.drop 4) _ HL).mono ?_; rw [HT.out]; rintro e w' ⟨rfl, rfl⟩)
              first
              | exact bodyPost_ret (v := parsedV badLine) (by simp [results, Try.results10, go_sem, parsedV, badLine]) rfl ⟨by rw [parse_tail_bad hp.out h4 hg.out HT.out (by first | exact .inl rfl | exact .inr (by omega))], HC.out.drewN _⟩
              | exact bodyPost_ret (v := parsedV ⟨num l 3, true, l.drop 4, 0⟩) (by simp [results, Try.results10, go_sem, parsedV, badLine]) rfl ⟨by rw [parse_tail_ok hp.out h4 hg.out HT.out (.inl ⟨hc', rfl⟩)], HC.out.drewN _⟩
              | exact bodyPost_ret (v := parsedV ⟨num l 3, false, l.drop 4, 0⟩) (by simp [results, Try.results10, go_sem, parsedV, badLine]) rfl ⟨by rw [parse_tail_ok hp.out h4 hg.out HT.out (.inr ⟨by omega, rfl⟩)], HC.out.drewN _⟩
end Go.Proofs.Ytghgiaokdbeepaa
