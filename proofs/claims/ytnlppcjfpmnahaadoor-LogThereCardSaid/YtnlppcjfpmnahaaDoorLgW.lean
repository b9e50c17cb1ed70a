/- mailroomlaw12: long, many, text. -/
import Derived.Test.YtnlppcjfpmnahaaDoorLgSt
import Derived.Test.YtnlppcjfpmnahaaDoorLgI
import Derived.BigQuiet
namespace Go.Proofs.YtnlppcjfpmnahaaDoor
set_option linter.all false
open Go.RowKit

def stN (s : St) : Nat := 30 + min 3000 s.keep.length + min 3000 s.s.length
def sumSt (l : List St) : Nat := (l.map stN).sum
theorem sumSt_snoc (l : List St) (s : St) : sumSt (l ++ [s]) = sumSt l + stN s := by simp [sumSt]
theorem sumSt_mem {l : List St} {s : St} (h : s ∈ l) : stN s ≤ sumSt l := by
  obtain ⟨a, b, rfl⟩ := List.append_of_mem h
  simp [sumSt]; omega
theorem sumSt_len (l : List St) : 30 * l.length ≤ sumSt l := by
  induction l with
  | nil => simp
  | cons a l ih =>
    have h : 30 ≤ stN a := by unfold stN; omega
    have e : sumSt (a :: l) = stN a + sumSt l := by simp [sumSt]
    rw [e, List.length_cons]
    omega
def Long12 (w0 : World) (L : List Piece) (l : List St) (e : Ending) (w' : World) : Prop := ∃ r, e = .returned (.bool r) ∧ Own w0 w' L ∧ (r = false → sumSt l < 3000)
set_option maxRecDepth 100000 in
set_option maxHeartbeats 1000000 in
theorem long12_own {w0 w : World} {L : List Piece} (O : Own w0 w L) {a : Option Addr} {N cap : Nat} {l : List St} {G : List Nat} (hv : StepsR w0 (.slice a N cap) l G) (hl : N ≤ maxLen) (hwf : ∀ s ∈ l, s.Wf) :
    Calls Tryd.prog 5 #[.slice a N cap] w (Long12 w0 L l) := by
  have hN := hv.len
  have hl2 : N ≤ 9223372036854775807 := hl
  have HV := Lib.hid hv
  have HW := Lib.hid hwf
  have HN := Lib.hid hN
  clear hv hl hwf hN
  go_enter Tryd.func5, Tryd.ntmps5
  go_wp2_with fail
  go_loopw [3, 4] (fun nv iv wx => ∃ k n : Nat, nv = .int .i64 (n : Int) ∧ iv = .int .i64 k ∧ k ≤ N ∧ Hid (n = sumSt (l.take k)) ∧ n ≤ 9100 ∧ Own w0 wx L) (fun _ iv _ => N - (intOf iv).toNat)
  case atStart => exact ⟨0, 0, rfl, rfl, by omega, rfl, by omega, O⟩
  case round =>
    clear O
    obtain ⟨k, n, rfl, rfl, hk, HS, hn, O⟩ := hrel
    by_cases hlt : k < N
    · have hb1 : (k : Int) < (N : Int) := by omega
      by_cases hlt2 : n < 3000
      · have hb2 : (n : Int) < 3000 := by omega
        have hx : k < l.length := by rw [← HN.out]; exact hlt
        obtain ⟨g, off, e1, hc⟩ := (HV.out.keep O.chg (by simp)).at hx
        subst e1
        have NX : Hid (n + stN l[k] = sumSt (l.take (k + 1))) := by
          unfold Hid; rw [List.take_succ_eq_append_getElem hx, sumSt_snoc, HS.out]
        have sw : l[k].Wf := HW.out _ (List.getElem_mem hx)
        generalize l[k] = s at hc NX sw
        clear hx HS
        have c3 := hc.c3
        have c5 := hc.c5
        have hkl : s.keep.length ≤ 9223372036854775807 := sw.keep.1
        unfold stN at NX
        obtain ⟨q1, hq1⟩ : ∃ q : Nat, q = min 3000 s.keep.length := ⟨_, rfl⟩
        obtain ⟨q2, hq2⟩ : ∃ q : Nat, q = min 3000 s.s.length := ⟨_, rfl⟩
        have m1 : min (3000 : Int) (s.keep.length : Int) = (q1 : Int) := by omega
        have m2 : min (3000 : Int) (s.s.length : Int) = (q2 : Int) := by omega
        have b1 : q1 ≤ 3000 := by omega
        have b2 : q2 ≤ 3000 := by omega
        rw [← hq1, ← hq2] at NX
        clear hc sw hq1 hq2
        have O2 := O
        clear O
        go_wp2_with fail
        go_quiet (fail)
        go_wp2
        go_roundw
        case rel => exact ⟨k + 1, n + (30 + q1 + q2), by go_num, by go_num, by omega, NX, by omega, O2.drewN _⟩
        case measure => simp [intOf]; omega
      · have hb2 : ¬ (n : Int) < 3000 := by omega
        have hb3 : (3000 : Int) ≤ (n : Int) := by omega
        go_wp2
        go_ret
        exact ⟨true, rfl, O, by simp⟩
    · have hb1 : ¬ (k : Int) < (N : Int) := by omega
      have e : sumSt (l.take k) = sumSt l := by rw [List.take_of_length_le (by have := HN.out; omega)]
      by_cases hlt2 : n < 3000
      · have hb3 : ¬ (3000 : Int) ≤ (n : Int) := by omega
        have FIN : Hid (sumSt l < 3000) := by unfold Hid; rw [← e, ← HS.out]; exact hlt2
        clear e HS
        go_wp2
        go_ret
        exact ⟨false, rfl, O, fun _ => FIN.out⟩
      · have hb3 : (3000 : Int) ≤ (n : Int) := by omega
        clear e HS
        go_wp2
        go_ret
        exact ⟨true, rfl, O, by simp⟩
def sumMn (l : List (List UInt8)) : Nat := (l.map fun s => 10 + min 9000 s.length).sum
theorem sumMn_snoc (l : List (List UInt8)) (s : List UInt8) : sumMn (l ++ [s]) = sumMn l + (10 + min 9000 s.length) := by simp [sumMn]
theorem sumMn_mem {l : List (List UInt8)} {s : List UInt8} (h : s ∈ l) : 10 + min 9000 s.length ≤ sumMn l := by
  obtain ⟨a, b, rfl⟩ := List.append_of_mem h
  simp [sumMn]; omega
def Many12 (w0 : World) (L : List Piece) (l : List (List UInt8)) (e : Ending) (w' : World) : Prop := ∃ r, e = .returned (.bool r) ∧ Own w0 w' L ∧ (r = false → sumMn l < 9000)
set_option maxRecDepth 100000 in
set_option maxHeartbeats 1000000 in
theorem many12_own {w0 w : World} {L : List Piece} (O : Own w0 w L) {a : Option Addr} {N cap : Nat} {l : List (List UInt8)} {G : List Nat} (hv : StrsR w0 (.slice a N cap) l G) (hN : N = l.length) (hl : N ≤ maxLen) :
    Calls Tryd.prog 6 #[.slice a N cap] w (Many12 w0 L l) := by
  have hl2 : N ≤ 9223372036854775807 := hl
  have HV := Lib.hid hv
  have HN := Lib.hid hN
  clear hv hl hN
  go_enter Tryd.func6, Tryd.ntmps6
  go_wp2_with fail
  go_loopw [3, 4] (fun nv iv wx => ∃ k n : Nat, nv = .int .i64 (n : Int) ∧ iv = .int .i64 k ∧ k ≤ N ∧ Hid (n = sumMn (l.take k)) ∧ n ≤ 20000 ∧ Own w0 wx L) (fun _ iv _ => N - (intOf iv).toNat)
  case atStart => exact ⟨0, 0, rfl, rfl, by omega, rfl, by omega, O⟩
  case round =>
    clear O
    obtain ⟨k, n, rfl, rfl, hk, HS, hn, O⟩ := hrel
    by_cases hlt : k < N
    · have hb1 : (k : Int) < (N : Int) := by omega
      by_cases hlt2 : n < 9000
      · have hb2 : (n : Int) < 9000 := by omega
        have hx : k < l.length := by rw [← HN.out]; exact hlt
        obtain ⟨g, off, e1, hc⟩ := (HV.out.keep O.chg (by simp)).read hx
        subst e1
        have NX : Hid (n + (10 + min 9000 l[k].length) = sumMn (l.take (k + 1))) := by
          unfold Hid; rw [List.take_succ_eq_append_getElem hx, sumMn_snoc, HS.out]
        generalize l[k] = s at hc NX
        clear hx HS
        obtain ⟨q1, hq1⟩ : ∃ q : Nat, q = min 9000 s.length := ⟨_, rfl⟩
        have m1 : min (9000 : Int) (s.length : Int) = (q1 : Int) := by omega
        have b1 : q1 ≤ 9000 := by omega
        rw [← hq1] at NX
        clear hq1
        go_wp2
        go_roundw
        case rel => exact ⟨k + 1, n + (10 + q1), by go_num, by go_num, by omega, NX, by omega, O⟩
        case measure => simp [intOf]; omega
      · have hb2 : ¬ (n : Int) < 9000 := by omega
        have hb3 : (9000 : Int) ≤ (n : Int) := by omega
        go_wp2
        go_ret
        exact ⟨true, rfl, O, by simp⟩
    · have hb1 : ¬ (k : Int) < (N : Int) := by omega
      have e : sumMn (l.take k) = sumMn l := by rw [List.take_of_length_le (by have := HN.out; omega)]
      by_cases hlt2 : n < 9000
      · have hb3 : ¬ (9000 : Int) ≤ (n : Int) := by omega
        have FIN : Hid (sumMn l < 9000) := by unfold Hid; rw [← e, ← HS.out]; exact hlt2
        clear e HS
        go_wp2
        go_ret
        exact ⟨false, rfl, O, fun _ => FIN.out⟩
      · have hb3 : (9000 : Int) ≤ (n : Int) := by omega
        clear e HS
        go_wp2
        go_ret
        exact ⟨true, rfl, O, by simp⟩
/-- a step's text -/
def txR (s : List UInt8) (many : Int) : Nat → Nat → List UInt8 → List UInt8
  | 0, _, out => out
  | f + 1, i, out => if (i : Int) < many ∧ out.length < 1500 then txR s many f (i + 1) (out ++ s) else out
def textL (s : St) : List UInt8 := txR s.s s.many 40 0 []
theorem txR_len (s : List UInt8) (many : Int) : ∀ (f i : Nat) (out : List UInt8), out.length ≤ 1500 + s.length → (txR s many f i out).length ≤ 1500 + s.length
  | 0, _, out, h => h
  | f + 1, i, out, h => by
    rw [txR]; split
    · rename_i q
      exact txR_len s many f (i + 1) (out ++ s) (by rw [List.length_append]; omega)
    · exact h
theorem textL_len (s : St) : (textL s).length ≤ 1500 + s.s.length := txR_len _ _ _ _ _ (by simp)
set_option maxRecDepth 100000 in
set_option maxHeartbeats 1000000 in
theorem text12_own {w0 w : World} {L : List Piece} (O : Own w0 w L) (s : St) (hs : s.s.length ≤ 3000) (hm : (Lit.int .i64 s.many).wf = true) :
    Calls Tryd.prog 20 #[.agg #[.int .u8 s.what, .int .i64 s.half, .int .i64 s.age, .string ⟨s.s.toArray⟩, .int .i64 s.many, .slice s.ka s.keep.length s.kc]] w fun e w' => e = .returned (.string ⟨(textL s).toArray⟩) ∧ Own w0 w' L := by
  have O1 := O.newBox #[.int .u8 s.what, .int .i64 s.half, .int .i64 s.age, .string ⟨s.s.toArray⟩, .int .i64 s.many, .slice s.ka s.keep.length s.kc] 50
  obtain ⟨B, hB⟩ : ∃ b, b = w.heap.size := ⟨_, rfl⟩
  rw [← hB] at O1
  have HR : Hid (textL s = txR s.s s.many (40 - 0) 0 []) := rfl
  obtain ⟨R, hR⟩ : ∃ R, R = textL s := ⟨_, rfl⟩
  rw [← hR] at HR ⊢
  have c3 := O1.cell 3
  have c4 := O1.cell 4
  clear O hR c3 c4
  go_enter Tryd.func20, Tryd.ntmps20
  go_upto_region 1 with fail
  rw [← hB]
  clear hB
  generalize (w.alloc (.cells #[.int .u8 s.what, .int .i64 s.half, .int .i64 s.age, .string ⟨s.s.toArray⟩, .int .i64 s.many, .slice s.ka s.keep.length s.kc] 50)) = W at O1 ⊢
  go_wp2_with fail
  go_loopw [3, 4] (fun ov iv wx => ∃ (i : Nat) (out : List UInt8), ov = .string ⟨out.toArray⟩ ∧ iv = .int .i64 i ∧ i ≤ 40 ∧ out.length ≤ 1500 + s.s.length ∧ Hid (R = txR s.s s.many (40 - i) i out) ∧ Own w0 wx (box B #[.int .u8 s.what, .int .i64 s.half, .int .i64 s.age, .string ⟨s.s.toArray⟩, .int .i64 s.many, .slice s.ka s.keep.length s.kc] 50 :: L)) (fun _ iv _ => 40 - (intOf iv).toNat)
  case atStart => exact ⟨0, [], rfl, rfl, by omega, by simp, HR, O1⟩
  case round =>
    clear O1 HR
    obtain ⟨i, out, rfl, rfl, hi, hol, HR, O⟩ := hrel
    have c3 := O.cell 3
    have c4 : wr.cell? ⟨B, 4, none⟩ = some (.int .i64 s.many) := O.cell 4
    by_cases h1 : (i : Int) < s.many
    · by_cases h2 : i < 40
      · have h2' : (i : Int) < 40 := by omega
        have e40 : 40 - i = (40 - (i + 1)) + 1 := by omega
        by_cases h3 : out.length < 1500
        · have h3' : (out.length : Int) < 1500 := by omega
          have NX : Hid (R = txR s.s s.many (40 - (i + 1)) (i + 1) (out ++ s.s)) := by
            unfold Hid; rw [HR.out, e40, txR, if_pos ⟨h1, h3⟩]
          have hz : ¬ 9223372036854775807 < out.length + s.s.length := by omega
          have hl : (out ++ s.s).length ≤ 1500 + s.s.length := by rw [List.length_append]; omega
          clear HR e40
          go_wp2
          go_roundw
          case rel => exact ⟨i + 1, out ++ s.s, by first | rfl | simp, by go_num, by omega, hl, NX, O⟩
          case measure => simp [intOf]; omega
        · have h3' : ¬ (out.length : Int) < 1500 := by omega
          obtain rfl : R = out := by rw [HR.out, e40, txR, if_neg (fun q => h3 q.2)]
          clear HR e40
          go_wp2
          go_ret
          exact ⟨rfl, O.drop⟩
      · have h2' : ¬ (i : Int) < 40 := by omega
        obtain rfl : R = out := by rw [HR.out, show 40 - i = 0 by omega]; rfl
        clear HR
        go_wp2
        go_ret
        exact ⟨rfl, O.drop⟩
    · have hR : R = out := by
        rw [HR.out]
        cases hq : 40 - i with
        | zero => rfl
        | succ f => rw [txR, if_neg (fun q => h1 q.1)]
      subst hR
      clear HR
      go_wp2
      go_ret
      exact ⟨rfl, O.drop⟩
end Go.Proofs.YtnlppcjfpmnahaaDoor
