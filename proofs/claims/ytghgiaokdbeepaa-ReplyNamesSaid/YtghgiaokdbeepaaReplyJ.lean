/- mailroomlaw05.statusOf; what parse has of a line, and of one that is shown. -/
import Derived.Test.YtghgiaokdbeepaaReplyI
namespace Go.Proofs.Ytghgiaokdbeepaa
set_option linter.all false
open Go.RowKit

def statOf (s : List UInt8) : List UInt8 := (Rd.zero.line s).1.taken.status

set_option maxHeartbeats 1000000 in
theorem statusOf_any (s : List UInt8) (hs : s.length ≤ 1000000000) (w : World) :
    Calls Try.prog 18 #[.string ⟨s.toArray⟩] w fun e w' => e = .returned (.string ⟨(statOf s).toArray⟩) ∧ Chg [] w w' := by
  go_enter Try.func18, Try.ntmps18
  go_wp2_with fail
  refine (new_any _ w.heap.size (Nat.le_refl _)).mono ?_
  rintro e w1 ⟨p, F1, rfl, r1, ch1, hf1, a, rfl⟩
  have R1 := Lib.hid r1
  have C1 := Lib.hid ch1; clear r1 ch1 hf1
  go_wp2_with fail
  refine (line_any s hs _ _ _ _ _ R1.out (by decide)).mono ?_
  rintro e w2 ⟨rfl, F2, r2, ch2, hf2⟩
  have R2 := Lib.hid r2
  have C2 := Lib.hid (C1.out.own ch2 (fun k hk => (R1.out.lt k hk).1)); clear r2 ch2 hf2
  unfold doneV
  go_wp2_with fail
  refine (take_any _ _ _ _ _ R2.out).mono ?_
  rintro e w3 ⟨v, G3, F3, rfl, ⟨s3, rfl, row3, rfl⟩, r3, ch3, hf3, hg3, hd3⟩
  obtain ⟨a3, cap3, rfl⟩ := row_shape row3
  have C3 := Lib.hid (C2.out.own ch3 (fun k hk => (R2.out.lt k hk).1)); clear r3 ch3 hf3 hg3 hd3 row3
  go_wp2
  go_ret
  exact ⟨rfl, C3.out.alloc _⟩

/-- a line that may be: its number, what is behind it -/
theorem parse_shape {l : List UInt8} (h : (parse l).err = 0) : ∃ a b c, (50 ≤ a.toNat ∧ a.toNat ≤ 53) ∧ (48 ≤ b.toNat ∧ b.toNat ≤ 53) ∧ (48 ≤ c.toNat ∧ c.toNat ≤ 57) ∧
    (parse l).code = 100 * ((a.toNat : Int) - 48) + 10 * ((b.toNat : Int) - 48) + ((c.toNat : Int) - 48) ∧
    ((l = [a, b, c] ∧ parse l = ⟨(parse l).code, false, [], 0⟩) ∨ ∃ (m : Bool) (t : List UInt8), l = a :: b :: c :: (if m then 45 else 32) :: t ∧ t.all okByte = true ∧ parse l = ⟨(parse l).code, m, t, 0⟩) := by
  by_cases hb : l.length < 3 ∨ digOk l 0 = false ∨ digOk l 1 = false ∨ digOk l 2 = false
  · rw [parse_bad hb] at h; cases h
  have h0 : digOk l 0 = true := by cases e : digOk l 0 <;> simp_all
  have h1 : digOk l 1 = true := by cases e : digOk l 1 <;> simp_all
  have h2 : digOk l 2 = true := by cases e : digOk l 2 <;> simp_all
  have b0 := digOk_bd h0
  have b1 := digOk_bd h1
  have b2 := digOk_bd h2
  match l, hb with
  | a :: b :: c :: r, hb =>
    simp [lo, hi] at b0 b1 b2
    have hcode := (parse_ok h).2.1
    have hn : num (a :: b :: c :: r) 3 = 100 * ((a.toNat : Int) - 48) + 10 * ((b.toNat : Int) - 48) + ((c.toNat : Int) - 48) := by simp [num]; omega
    refine ⟨a, b, c, by omega, by omega, by omega, by rw [hcode, hn], ?_⟩
    match r with
    | [] => left; refine ⟨rfl, ?_⟩; rw [hcode]; unfold parse; rw [if_neg hb]; exact if_pos rfl
    | d :: t =>
      right
      have hp : parse (a :: b :: c :: d :: t) = if (d.toNat = 45 ∨ d.toNat = 32) ∧ t.all okByte = true then ⟨num (a :: b :: c :: d :: t) 3, d.toNat == 45, t, 0⟩ else badLine := by
        unfold parse; rw [if_neg hb, if_neg (by simp)]; simp
      rw [hp] at h ⊢
      split at h
      · rename_i hd
        rw [if_pos hd]
        rcases hd with ⟨hd | hd, ht⟩
        · have hd' : d = 45 := UInt8.toNat_inj.1 hd
          exact ⟨true, t, by rw [hd']; rfl, ht, by simp [hd]⟩
        · have hd' : d = 32 := UInt8.toNat_inj.1 hd
          exact ⟨false, t, by rw [hd']; rfl, ht, by simp [hd]⟩
      · cases h
  | [], hb => simp at hb
  | [_], hb => simp at hb
  | [_, _], hb => simp at hb
/-- a line that is put together of these is so parsed -/
theorem parse_of {a b c : UInt8} {t : List UInt8} (m : Bool) (ha : 50 ≤ a.toNat ∧ a.toNat ≤ 53) (hb : 48 ≤ b.toNat ∧ b.toNat ≤ 53) (hc : 48 ≤ c.toNat ∧ c.toNat ≤ 57) (ht : t.all okByte = true) :
    parse (a :: b :: c :: (if m then 45 else 32) :: t) = ⟨100 * ((a.toNat : Int) - 48) + 10 * ((b.toNat : Int) - 48) + ((c.toNat : Int) - 48), m, t, 0⟩ := by
  unfold parse
  rw [if_neg (by simp [digOk, lo, hi]; omega), if_neg (by simp), if_pos (by cases m <;> simp [ht])]
  have hn : num (a :: b :: c :: (if m then 45 else 32) :: t) 3 = 100 * ((a.toNat : Int) - 48) + 10 * ((b.toNat : Int) - 48) + ((c.toNat : Int) - 48) := by simp [num]; omega
  rw [hn]
  cases m <;> simp
theorem numStr_of {a b c : UInt8} (ha : 50 ≤ a.toNat ∧ a.toNat ≤ 53) (hb : 48 ≤ b.toNat ∧ b.toNat ≤ 53) (hc : 48 ≤ c.toNat ∧ c.toNat ≤ 57) :
    numStr (100 * ((a.toNat : Int) - 48) + 10 * ((b.toNat : Int) - 48) + ((c.toNat : Int) - 48)) = [a, b, c] := by
  unfold numStr
  have e1 : (48 + (100 * ((a.toNat : Int) - 48) + 10 * ((b.toNat : Int) - 48) + ((c.toNat : Int) - 48)) / 100).toNat = a.toNat := by omega
  have e2 : (48 + (100 * ((a.toNat : Int) - 48) + 10 * ((b.toNat : Int) - 48) + ((c.toNat : Int) - 48)) / 10 % 10).toNat = b.toNat := by omega
  have e3 : (48 + (100 * ((a.toNat : Int) - 48) + 10 * ((b.toNat : Int) - 48) + ((c.toNat : Int) - 48)) % 10).toNat = c.toNat := by omega
  rw [e1, e2, e3]; simp
theorem numStr_inj {c d : Int} (hc : 200 ≤ c ∧ c ≤ 599) {a b e : UInt8} (h : numStr c = [a, b, e]) (hd : d = 100 * ((a.toNat : Int) - 48) + 10 * ((b.toNat : Int) - 48) + ((e.toNat : Int) - 48)) : d = c := by
  unfold numStr at h
  simp only [List.cons.injEq, and_true] at h
  obtain ⟨rfl, rfl, rfl⟩ := h
  rw [hd]
  simp only [UInt8.toNat_ofNat']
  omega
/-- a line that is shown, and may be, has just what it was shown of -/
theorem parse_shown {x : Rep} {i : Nat} (hi : i < x.lines.length) (hc : 200 ≤ x.code ∧ x.code ≤ 599) (h : (parse (shownAt x i)).err = 0) :
    parse (shownAt x i) = ⟨x.code, decide (i + 1 ≠ x.lines.length), x.lines[i], 0⟩ := by
  obtain ⟨a, b, c, ha, hb, hcc, hcode, hl⟩ := parse_shape h
  have hs : shownAt x i = numStr x.code ++ (if i + 1 = x.lines.length then 32 else 45) :: x.lines[i] := by simp [shownAt, hi]
  have hn : ∃ p q r, numStr x.code = [p, q, r] := ⟨_, _, _, rfl⟩
  obtain ⟨p, q, r, hn⟩ := hn
  rw [hn] at hs
  rcases hl with ⟨hl, _⟩ | ⟨m, t, hl, _, hp⟩
  · rw [hs] at hl; simp at hl
  · rw [hs] at hl
    simp only [List.cons_append, List.nil_append, List.cons.injEq] at hl
    obtain ⟨rfl, rfl, rfl, hm, rfl⟩ := hl
    have e := numStr_inj hc hn hcode
    rw [hp, e]
    congr 1
    by_cases hk : i + 1 = x.lines.length
    · rw [if_pos hk] at hm; cases m
      · simp [hk]
      · simp at hm
    · rw [if_neg hk] at hm; cases m
      · simp at hm
      · simp [hk]
end Go.Proofs.Ytghgiaokdbeepaa
