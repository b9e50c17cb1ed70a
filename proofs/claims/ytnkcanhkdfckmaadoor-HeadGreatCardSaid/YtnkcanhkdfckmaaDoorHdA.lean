/- head: small, Like, named, begins. -/
import Derived.Test.YtnkcanhkdfckmaaDoorLineB
import Derived.Test.YtnkcanhkdfckmaaDoorBytes
import Derived.Outline
namespace Go.Proofs.YtnkcanhkdfckmaaDoor
set_option linter.all false
open Go.RowKit

def lw (c : UInt8) : UInt8 := if 65 ≤ c.toNat ∧ c.toNat ≤ 90 then UInt8.ofNat (c.toNat + 32) else c
theorem lw_great {c : UInt8} (h1 : 65 ≤ (c.toNat : Int)) (h2 : (c.toNat : Int) ≤ 90) : ((lw c).toNat : Int) = (c.toNat : Int) + 32 := by
  unfold lw
  rw [if_pos (by omega)]
  simp; omega
theorem lw_low {c : UInt8} (h : (c.toNat : Int) < 65 ∨ 90 < (c.toNat : Int)) : lw c = c := by unfold lw; rw [if_neg (by omega)]
def smallL (s : List UInt8) : List UInt8 := s.map lw
theorem smallL_len (s : List UInt8) : (smallL s).length = s.length := by simp [smallL]
/-- the first k bytes small -/
def smK (s : List UInt8) (k : Nat) : List UInt8 := smallL (s.take k) ++ s.drop k
theorem smK_zero (s : List UInt8) : smK s 0 = s := rfl
theorem smK_all (s : List UInt8) : smK s s.length = smallL s := by simp [smK]
theorem smK_len (s : List UInt8) (k : Nat) : (smK s k).length = s.length := by simp [smK, smallL]; omega
theorem smK_at {s : List UInt8} {k : Nat} (h : k < s.length) : (smK s k)[k]'(by rw [smK_len]; exact h) = s[k] := by
  have hk : (smallL (s.take k)).length = k := by simp [smallL]; omega
  simp only [smK]
  rw [List.getElem_append_right (by omega)]
  simp [hk]
theorem smK_succ {s : List UInt8} {k : Nat} (h : k < s.length) : smK s (k + 1) = (smK s k).set k (lw s[k]) := by
  apply List.ext_getElem
  · rw [smK_len, List.length_set, smK_len]
  · intro j h1 h2
    have hk : (smallL (s.take k)).length = k := by simp [smallL]; omega
    have hk1 : (smallL (s.take (k + 1))).length = k + 1 := by simp [smallL]; omega
    have hj : j < s.length := by rw [smK_len] at h1; exact h1
    rw [List.getElem_set]
    simp only [smK]
    by_cases e : k = j
    · subst e
      rw [if_pos rfl, List.getElem_append_left (by omega)]
      simp [smallL]
    · rw [if_neg e]
      by_cases q : j < k
      · rw [List.getElem_append_left (by omega), List.getElem_append_left (by omega)]
        simp [smallL]
      · rw [List.getElem_append_right (by omega), List.getElem_append_right (by omega)]
        simp only [List.getElem_drop, hk, hk1]
        congr 1; omega
theorem smK_same {s : List UInt8} {k : Nat} (h : k < s.length) (e : lw s[k] = s[k]) : smK s (k + 1) = smK s k := by
  rw [smK_succ h, e]
  have := smK_at h
  conv => lhs; rw [← this]
  exact List.set_getElem_self _
theorem or32 {c : UInt8} (h1 : 65 ≤ (c.toNat : Int)) (h2 : (c.toNat : Int) ≤ 90) : bits BinOp.or IntKind.u8 (c.toNat : Int) 32 = (c.toNat : Int) + 32 := by
  have : ∀ m : Nat, m < 91 → 65 ≤ m → bits BinOp.or IntKind.u8 (m : Int) 32 = (m : Int) + 32 := by decide +kernel
  exact this c.toNat (by omega) (by omega)
set_option maxHeartbeats 1000000 in
theorem small_own {w0 w : World} {L : List Piece} (O : Own w0 w L) (s : List UInt8) (hs : s.length ≤ 1000000000) :
    Calls Tryd.prog 37 #[.string ⟨s.toArray⟩] w fun e w' => e = .returned (.string ⟨(smallL s).toArray⟩) ∧ Own w0 w' L := by
  obtain ⟨g, cap, W1, hcv, O1⟩ := O.toBytes s
  go_enter Tryd.func37, Tryd.ntmps37
  go_wp2_with fail
  go_loopw [10] (fun iv wr => ∃ k : Nat, k ≤ s.length ∧ iv = .int .i64 k ∧ Own w0 wr (bytes g (smK s k) :: L)) (fun iv _ => s.length - (intOf iv).toNat)
  case atStart => exact ⟨0, by omega, rfl, O1⟩
  case round =>
    clear O O1 hcv
    obtain ⟨k, hk, rfl, O⟩ := hrel
    by_cases hlt : k < s.length
    · have hb1 : (k : Int) < (s.length : Int) := by omega
      obtain ⟨r1, r2⟩ := O.byteCell k (by rw [smK_len]; exact hlt)
      rw [smK_at hlt] at r1
      by_cases c1 : 65 ≤ (s[k].toNat : Int)
      · by_cases c2 : (s[k].toNat : Int) ≤ 90
        · have LG := Lib.hid (lw_great c1 c2)
          have ST := Lib.hid (smK_succ hlt)
          have hor := Lib.hid (or32 c1 c2)
          go_wp2_with fail
          go_roundw
          case rel => exact ⟨k + 1, by omega, by go_num, by rw [hor.out, ← LG.out, ST.out]; exact O.setByte k _⟩
          case measure => simp [intOf]; omega
        · have EQ := Lib.hid (smK_same hlt (lw_low (by omega)))
          go_wp2_with fail
          go_roundw
          case rel => exact ⟨k + 1, by omega, by go_num, by rw [EQ.out]; exact O⟩
          case measure => simp [intOf]; omega
      · have EQ := Lib.hid (smK_same hlt (lw_low (by omega)))
        go_wp2_with fail
        go_roundw
        case rel => exact ⟨k + 1, by omega, by go_num, by rw [EQ.out]; exact O⟩
        case measure => simp [intOf]; omega
    · obtain rfl : k = s.length := by omega
      have hcv := O.fromBytes cap
      rw [smK_len, smK_all] at hcv
      go_wp2
      go_ret
      exact ⟨rfl, O.drop⟩
theorem like_own {w0 w : World} {L : List Piece} (O : Own w0 w L) (a b : List UInt8) (ha : a.length ≤ 1000000000) (hb : b.length ≤ 1000000000) :
    Calls Tryd.prog 15 #[.string ⟨a.toArray⟩, .string ⟨b.toArray⟩] w fun e w' => e = .returned (.bool (smallL a == smallL b)) ∧ Own w0 w' L := by
  go_enter Tryd.func15, Tryd.ntmps15
  go_wp2_with fail
  refine (small_own O a ha).mono ?_
  clear O
  rintro e w1 ⟨rfl, O⟩
  go_wp2_with fail
  refine (small_own O b hb).mono ?_
  clear O
  rintro e w2 ⟨rfl, O⟩
  go_wp2
  go_ret
  exact ⟨rfl, O⟩
/-- may a name have this byte? -/
def nc (c : UInt8) : Bool := decide (33 ≤ c.toNat ∧ c.toNat ≤ 126) && !(c == 58)
def namedB (s : List UInt8) : Bool := !s.isEmpty && s.all nc
theorem bq_is (c d : UInt8) (n : Int) (hn : (d.toNat : Int) = n) : ((c.toNat : Int) == n) = (c == d) := by
  subst hn
  by_cases h : c = d
  · subst h; simp
  · have e : (c == d) = false := by simpa using h
    rw [e]
    cases q : ((c.toNat : Int) == (d.toNat : Int)) with
    | false => rfl
    | true => exfalso; apply h; apply UInt8.toNat_inj.1; have := eq_of_beq q; omega
set_option maxHeartbeats 1000000 in
theorem named_own {w0 w : World} {L : List Piece} (O : Own w0 w L) (s : List UInt8) (hs : s.length ≤ 1000000000) :
    Calls Tryd.prog 35 #[.string ⟨s.toArray⟩] w fun e w' => e = .returned (.bool (namedB s)) ∧ Own w0 w' L := by
  obtain ⟨g, cap, W1, hcv, O1⟩ := O.toBytes s
  obtain ⟨r, hr⟩ : ∃ r, r = namedB s := ⟨_, rfl⟩
  rw [← hr]
  have HR := Lib.hid hr
  clear hr
  go_enter Tryd.func35, Tryd.ntmps35
  go_wp2_with fail
  clear O hcv
  go_loopw [8] (fun iv wr => ∃ k : Nat, k ≤ s.length ∧ iv = .int .i64 k ∧ Hid ((s.take k).all nc = true) ∧ wr = W1) (fun iv _ => s.length - (intOf iv).toNat)
  case atStart => exact ⟨0, by omega, rfl, rfl, by trivial⟩
  case round =>
    obtain ⟨k, hk, rfl, HA, rfl⟩ := hrel
    by_cases hlt : k < s.length
    · have hb1 : (k : Int) < (s.length : Int) := by omega
      obtain ⟨r1, r2⟩ := O1.byteCell k hlt
      have NX : Hid ((s.take (k + 1)).all nc = nc s[k]) := by
        unfold Hid; rw [List.take_succ_eq_append_getElem hlt, List.all_append, HA.out]; simp
      have OFF : Hid (nc s[k] = false → r = false) := by
        intro h
        rw [HR.out]
        have : s.all nc = false := by
          rw [List.all_eq_false]; exact ⟨s[k], List.getElem_mem hlt, by simpa using h⟩
        unfold namedB; rw [this]; simp
      have c58 := bq_is s[k] 58 58 rfl
      have NC : Hid (nc s[k] = (decide (33 ≤ s[k].toNat ∧ s[k].toNat ≤ 126) && !(s[k] == 58))) := rfl
      generalize s[k] = c at r1 NX OFF c58 NC
      by_cases c1 : (c.toNat : Int) < 33
      · have fin : r = false := OFF.out (by rw [NC.out, decide_eq_false (by omega)]; rfl)
        subst fin
        clear c58 NX OFF NC HR
        go_wp2
        go_ret
        exact ⟨rfl, O1.drop⟩
      by_cases c2 : 126 < (c.toNat : Int)
      · have fin : r = false := OFF.out (by rw [NC.out, decide_eq_false (by omega)]; rfl)
        subst fin
        clear c58 NX OFF NC HR
        go_wp2
        go_ret
        exact ⟨rfl, O1.drop⟩
      rcases Bool.eq_false_or_eq_true (c == 58) with q | q
      · have fin : r = false := OFF.out (by rw [NC.out, q]; simp)
        subst fin
        rw [q] at c58
        clear NX OFF NC HR q
        go_wp2
        go_ret
        exact ⟨rfl, O1.drop⟩
      · have NX2 : Hid ((s.take (k + 1)).all nc = true) := NX.out.trans (by rw [NC.out, q, decide_eq_true (by omega)]; rfl)
        rw [q] at c58
        clear NX OFF NC q
        go_wp2_with fail
        go_roundw
        case rel => exact ⟨k + 1, by omega, by go_num, NX2, by trivial⟩
        case measure => simp [intOf]; omega
    · obtain rfl : k = s.length := by omega
      have E := HA.out
      rw [List.take_length] at E
      have R := HR.out
      unfold namedB at R
      rw [E, Bool.and_true] at R
      clear HA HR E
      cases he : s.isEmpty
      · have fin : r = true := by rw [R, he]; rfl
        subst fin
        clear R
        go_wp2
        go_ret
        exact ⟨rfl, O1.drop⟩
      · have fin : r = false := by rw [R, he]; rfl
        subst fin
        clear R
        go_wp2
        go_ret
        exact ⟨rfl, O1.drop⟩
/-- a field: its name, its value -/
abbrev Fd := List UInt8 × List UInt8
/-- the field that a line begins, if there is one -/
def begL (l : List UInt8) : Fd := ((Lib.cut l [58]).1, (Lib.cut l [58]).2.1)
def begB (l : List UInt8) : Bool := (Lib.cut l [58]).2.2 && namedB (begL l).1
def fdV (f : Fd) : Value := .agg #[.string ⟨f.1.toArray⟩, .string ⟨f.2.toArray⟩]
set_option maxHeartbeats 1000000 in
theorem begins_own {w0 w : World} {L : List Piece} {m : Int} (hm : w0.cell? ⟨0, 0, none⟩ = some (.int .i64 m)) (O : Own w0 w L) (l : List UInt8) (hl : l.length ≤ 1000000000) :
    Calls Tryd.prog 62 #[.string ⟨l.toArray⟩] w fun e w' => e = .returned (.tuple #[fdV (begL l), .bool (begB l)]) ∧ Own w0 w' L := by
  have hmW := (O.newBox #[.string ⟨#[]⟩, .string ⟨#[]⟩] 29).chg.cell hm (by simp)
  have CUT := Tryd.strings_Cut ⟨l.toArray⟩ ⟨#[58]⟩ m _ (by simp [ByteArray.size]; omega) hmW
  have BL : Hid (begL l = ((Lib.cut l [58]).1, (Lib.cut l [58]).2.1) ∧ begB l = ((Lib.cut l [58]).2.2 && namedB (Lib.cut l [58]).1)) := ⟨rfl, rfl⟩
  have LN : (Lib.cut l [58]).1.length ≤ 1000000000 := by
    unfold Lib.cut
    split
    · simp; omega
    · exact hl
  rw [BL.out.1, BL.out.2]
  simp only at CUT
  generalize Lib.cut l [58] = ct at CUT LN
  obtain ⟨nm, vl, is⟩ := ct
  simp only at CUT LN ⊢
  clear BL hmW
  obtain ⟨r, hr⟩ : ∃ r, r = (is && namedB nm) := ⟨_, rfl⟩
  rw [← hr]
  have HR := Lib.hid hr
  clear hr
  have O := O.newBox #[.string ⟨#[]⟩, .string ⟨#[]⟩] 29
  go_enter Tryd.func62, Tryd.ntmps62
  go_wp2_with fail
  refine CUT.mono ?_
  clear CUT
  rintro e w1 ⟨rfl, n, rfl⟩
  replace O := O.drewN n
  generalize (w.alloc (.cells #[.string ⟨#[]⟩, .string ⟨#[]⟩] 29)).drewN n = W at O ⊢
  cases is
  focus
    have c0 := O.cell 0
    have c1 := O.cell 1
    have f0 := O.free 0
    have f1 := O.free 1
    have fin : r = false := HR.out
    subst fin
    clear HR
    go_wp2_with fail
  rotate_left
  focus
    have NM := named_own O nm LN
    have fin : r = namedB nm := HR.out
    rw [← fin] at NM
    clear fin HR
    go_wp2_with fail
    refine NM.mono ?_
    clear NM O
    rintro e w2 ⟨rfl, O⟩
    have c0 := O.cell 0
    have c1 := O.cell 1
    have f0 := O.free 0
    have f1 := O.free 1
    go_wp2_with fail
  all_goals
    have O2 := (O.set 0 (.string ⟨nm.toArray⟩)).set 1 (.string ⟨vl.toArray⟩)
    have c0 := O2.cell 0
    have c1 := O2.cell 1
    refine bodyPost_ret (by simp [results, Tryd.results62, go_sem, c0, c1]; try rfl) rfl ?_
    exact ⟨rfl, O2.drop⟩
end Go.Proofs.YtnkcanhkdfckmaaDoor
