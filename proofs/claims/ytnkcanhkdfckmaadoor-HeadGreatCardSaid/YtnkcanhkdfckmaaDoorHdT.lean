/- mailroomlaw09: long, folded, other. -/
import Derived.Test.YtnkcanhkdfckmaaDoorHdY
import Derived.Test.YtnkcanhkdfckmaaDoorSub
namespace Go.Proofs.YtnkcanhkdfckmaaDoor
set_option linter.all false
open Go.RowKit Go.Shelf

def sumF (l : List Fd) : Nat := (l.map fun f => 5 + f.1.length + f.2.length).sum
theorem sumF_snoc (l : List Fd) (f : Fd) : sumF (l ++ [f]) = sumF l + (5 + f.1.length + f.2.length) := by simp [sumF]
theorem sumF_mem {l : List Fd} {f : Fd} (h : f ∈ l) : 5 + f.1.length + f.2.length ≤ sumF l := by
  obtain ⟨a, b, rfl⟩ := List.append_of_mem h
  simp [sumF]; omega
theorem sumF_len (l : List Fd) : l.length ≤ sumF l := by
  induction l with
  | nil => simp
  | cons a l ih => simp [sumF] at ih ⊢; omega
theorem sumF_cap (f : Fd) (l : List Fd) : sumF (f :: l) = 5 + f.1.length + f.2.length + sumF l := by simp [sumF]
def LongPost (l : List Fd) (w : World) (e : Ending) (w' : World) : Prop := ∃ (b : Bool) (n : Nat), e = .returned (.bool b) ∧ w' = w.drewN n ∧ (b = false → sumF l < 5000)
set_option maxHeartbeats 1000000 in
theorem long9_any (w : World) {a : Option Addr} {cap N : Nat} {l : List Fd} (RD : FdR w (.slice a N cap) l) (hN : N = l.length) (hNl : N ≤ maxLen) (hb : ∀ f ∈ l, f.1.length ≤ 140737488351232 ∧ f.2.length ≤ 140737488351232) :
    Calls Tryd.prog 28 #[.slice a N cap] w (LongPost l w) := by
  have RDH := Lib.hid RD
  have HN := Lib.hid hN
  have HB := Lib.hid hb
  have hN9 : N ≤ 9223372036854775807 := hNl
  clear RD hN hb hNl
  go_enter Tryd.func28, Tryd.ntmps28
  go_wp2_with fail
  go_loopw [3, 4] (fun nv iv wr => ∃ (k j n : Nat), nv = .int .i64 (n : Int) ∧ iv = .int .i64 k ∧ k ≤ N ∧ Hid (n = sumF (l.take k)) ∧ n ≤ 300000000000000 ∧ wr = w.drewN j) (fun _ iv _ => N - (intOf iv).toNat)
  case atStart => exact ⟨0, 0, 0, rfl, rfl, by omega, rfl, by omega, rfl⟩
  case round =>
    obtain ⟨k, j, n, rfl, rfl, hk, HS, hn, rfl⟩ := hrel
    by_cases hlt : k < N
    · have hb1 : (k : Int) < (N : Int) := by omega
      by_cases hl : n < 5000
      · have hb2 : (n : Int) < 5000 := by omega
        have hx : k < l.length := by rw [← HN.out]; exact hlt
        obtain ⟨g, off, rfl, c0, c1⟩ := RDH.out.at k hx
        have hs : Hid (n + (5 + l[k].1.length + l[k].2.length) = sumF (l.take (k + 1))) := by
          unfold Hid; rw [List.take_succ_eq_append_getElem hx, sumF_snoc, ← HS.out]
        obtain ⟨b1, b2⟩ := HB.out _ (List.getElem_mem hx)
        have b3 := b1
        have b4 := b2
        have c0' : (w.drewN j).cell? ⟨g, off + k * 2, none⟩ = _ := c0
        have c1' : (w.drewN j).cell? ⟨g, off + k * 2 + 1, none⟩ = _ := c1
        generalize hW : w.drewN j = W at c0' c1' ⊢
        have HW := Lib.hid hW
        clear hW c0 c1 b1 b2
        generalize l[k] = f at c0' c1' hs b3 b4
        clear hx HS
        go_wp2_with fail
        go_quiet (fail)
        go_wp2
        go_roundw
        case rel => exact ⟨k + 1, j + _, n + (5 + f.1.length + f.2.length), by go_num, by go_num, by omega, hs.out, by omega, by rw [← HW.out, World.drewN_drewN]⟩
        case measure => simp [intOf]; omega
      · have hb2 : ¬ (n : Int) < 5000 := by omega
        have hb3 : (5000 : Int) ≤ (n : Int) := by omega
        go_wp2
        go_ret
        exact ⟨true, j, rfl, rfl, fun h => by cases h⟩
    · obtain rfl : k = N := by omega
      have e : n = sumF l := by rw [HS.out, List.take_of_length_le (by have := HN.out; omega)]
      by_cases hl : n < 5000
      · have hb2 : ¬ (5000 : Int) ≤ (n : Int) := by omega
        have E := Lib.hid e
        clear e HS
        go_wp2
        go_ret
        exact ⟨_, j, rfl, rfl, fun _ => by rw [← E.out]; exact hl⟩
      · have hb3 : (5000 : Int) ≤ (n : Int) := by omega
        clear e HS
        go_wp2
        go_ret
        exact ⟨_, j, rfl, rfl, fun h => by simp at h⟩
def FoldPost (s : List UInt8) (w : World) (e : Ending) (w' : World) : Prop := ∃ ps cur, e = .returned (.string ⟨(joinL ps ++ cur).toArray⟩) ∧ w' = w ∧ FoldOf s s.length ps cur ∧ (joinL ps ++ cur).length ≤ 3 * s.length
set_option maxRecDepth 100000 in
set_option maxHeartbeats 4000000 in
theorem folded_any (s : List UInt8) (hs : s.length ≤ 10000000) (wh : Int) (w : World) : Calls Tryd.prog 29 #[.string ⟨s.toArray⟩, .int .u64 wh] w (FoldPost s w) := by
  go_enter Tryd.func29, Tryd.ntmps29
  go_wp2_with fail
  go_loopw [5, 6, 7] (fun ov sv iv wr => ∃ (k j : Nat) (ps : List (List UInt8)) (cur out : List UInt8), ov = .string ⟨out.toArray⟩ ∧ sv = .int .i64 (j : Int) ∧ iv = .int .i64 k ∧ k ≤ s.length ∧ j ≤ k ∧ Hid (FoldOf s k ps cur) ∧ Hid (out = joinL ps ++ cur) ∧ out.length ≤ 3 * k ∧ wr = w) (fun _ _ iv _ => s.length - (intOf iv).toNat)
  case atStart => exact ⟨0, 0, [], [], [], rfl, rfl, rfl, by omega, by omega, FoldOf.zero, rfl, by simp, rfl⟩
  case round =>
    obtain ⟨k, j, ps, cur, out, rfl, rfl, rfl, hk, hj, HF, HO, hol, rfl⟩ := hrel
    by_cases hlt : k < s.length
    · have hb1 : (k : Int) < (s.length : Int) := by omega
      have KEEP : Hid (FoldOf s (k + 1) ps (cur ++ [s[k]]) ∧ out ++ [s[k]] = joinL ps ++ (cur ++ [s[k]])) := ⟨FoldOf.keep hlt HF.out, by rw [HO.out]; simp⟩
      have SB := run_sub s k (k + 1) (by omega) (by omega)
      rw [show (s.drop k).take (k + 1 - k) = [s[k]] from by rw [List.drop_eq_getElem_cons hlt, show k + 1 - k = 1 by omega]; rfl, show ((k + 1 : Nat) : Int) = (k : Int) + 1 by omega] at SB
      have c32 := bq_is s[k] 32 32 rfl
      have CS : (s[k] == 32) = false ∨ (s[k] == 32) = true ∧ k = 0 ∨ (s[k] == 32) = true ∧ 0 < k ∧ ¬ k + 1 < s.length ∨ (s[k] == 32) = true ∧ 0 < k ∧ k + 1 < s.length := by
        cases (s[k] == 32)
        · exact .inl rfl
        · rcases Nat.eq_zero_or_pos k with h | h
          · exact .inr (.inl ⟨rfl, h⟩)
          · by_cases h2 : k + 1 < s.length
            · exact .inr (.inr (.inr ⟨rfl, h, h2⟩))
            · exact .inr (.inr (.inl ⟨rfl, h, h2⟩))
      have E32 : Hid ((s[k] == 32) = true → s[k] = 32) := fun h => by simpa using h
      rcases CS with q | ⟨q, hz⟩ | ⟨q, h0, h1⟩ | ⟨q, h0, h1⟩
      focus
        rw [q] at c32
        clear q E32
        go_wp2_with fail
      rotate_left
      focus
        rw [q] at c32
        have h0' : ¬ (0 : Int) < (k : Int) := by omega
        clear q E32 hz
        go_wp2_with fail
        clear h0'
      rotate_left
      focus
        rw [q] at c32
        have h1' : ¬ (k : Int) + 1 < (s.length : Int) := by omega
        have h0' : (0 : Int) < (k : Int) := by omega
        clear q E32
        go_wp2_with fail
        clear h1' h0'
      rotate_left
      focus
        rw [q] at c32
        have h1' : (k : Int) + 1 < (s.length : Int) := by omega
        have h0' : (0 : Int) < (k : Int) := by omega
        have i1 : (k : Int) - 1 < (s.length : Int) := by omega
        have i2 : 0 ≤ (k : Int) - 1 := by omega
        have i3 : ((k : Int) - 1).toNat = k - 1 := by omega
        have i4 : k - 1 < s.length := by omega
        have s1 : IntKind.i64.wrap ((k : Int) - 1) = (k : Int) - 1 := IntWalk.i64_in _ (by omega)
        have p58 := bq_is s[k - 1] 58 58 rfl
        have p32 := bq_is s[k - 1] 32 32 rfl
        have p9 := bq_is s[k - 1] 9 9 rfl
        have H32 := Lib.hid (E32.out q)
        have FOLD : Hid ((s[k - 1] == 58) = false → FoldOf s (k + 1) (ps ++ [cur]) [s[k]] ∧ (out ++ crlf) ++ [s[k]] = joinL (ps ++ [cur]) ++ [s[k]]) := fun h =>
          ⟨FoldOf.fold hlt HF.out H32.out h0 (fun _ => by simpa using h), by rw [HO.out, joinL_snoc]; simp⟩
        have n58 : ((s[k - 1].toNat : Int) != 58) = !(s[k - 1] == 58) := by rw [bne, p58]
        have n32 : ((s[k - 1].toNat : Int) != 32) = !(s[k - 1] == 32) := by rw [bne, p32]
        have n9 : ((s[k - 1].toNat : Int) != 9) = !(s[k - 1] == 9) := by rw [bne, p9]
        clear q E32 p58 p32 p9
        rcases Bool.eq_false_or_eq_true (s[k - 1] == 58) with q58 | q58
        focus
          rw [q58] at n58
          simp only [Bool.not_true] at n58
          clear FOLD q58 n32 n9
          go_wp2_with fail
          clear n58
        rotate_left
        rw [q58] at n58
        rcases Bool.eq_false_or_eq_true (s[k - 1] == 32) with q32 | q32
        focus
          rw [q32] at n32
          simp only [Bool.not_true, Bool.not_false] at n58 n32
          clear FOLD q58 q32 n9
          go_wp2_with fail
          clear n58 n32
        rotate_left
        rw [q32] at n32
        rcases Bool.eq_false_or_eq_true (s[k - 1] == 9) with q9 | q9
        focus
          rw [q9] at n9
          simp only [Bool.not_true, Bool.not_false] at n58 n32 n9
          clear FOLD q58 q32 q9
          go_wp2_with fail
          clear n58 n32 n9
        rotate_left
        focus
          rw [q9] at n9
          simp only [Bool.not_true, Bool.not_false] at n58 n32 n9
          have FD := Lib.hid (FOLD.out q58)
          clear FOLD q58 q32 q9
          go_wp2_with fail
          · go_roundw
            case rel => exact ⟨k + 1, j + 1, ps ++ [cur], [s[k]], out ++ crlf ++ [s[k]], by first | rfl | simp [crlf, mk_append], by go_num, by go_num, by omega, by omega, FD.out.1, FD.out.2, by simp [crlf]; omega, by trivial⟩
            case measure => simp [intOf]; omega
          · go_roundw
            case rel => exact ⟨k + 1, j + 1, ps, cur ++ [s[k]], out ++ [s[k]], by first | rfl | simp [mk_append], by go_num, by go_num, by omega, by omega, KEEP.out.1, KEEP.out.2, by simp; omega, by trivial⟩
            case measure => simp [intOf]; omega
      all_goals
        go_roundw
        case rel => exact ⟨k + 1, j, ps, cur ++ [s[k]], out ++ [s[k]], by first | rfl | simp [mk_append], by go_num, by go_num, by omega, by omega, KEEP.out.1, KEEP.out.2, by simp; omega, by trivial⟩
        case measure => simp [intOf]; omega
    · obtain rfl : k = s.length := by omega
      have hb1 : ¬ (s.length : Int) < (s.length : Int) := by omega
      have FIN : Hid (FoldPost s wr (.returned (.string ⟨out.toArray⟩)) wr) := ⟨ps, cur, by rw [HO.out], rfl, HF.out, by rw [← HO.out]; exact hol⟩
      go_wp2
      go_ret
      exact FIN.out
end Go.Proofs.YtnkcanhkdfckmaaDoor
