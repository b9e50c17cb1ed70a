/- mailroomlaw07: long, other. -/
import Derived.Test.YtehkdbgoeakgbaaGreatDoorCmG
import Derived.BigQuiet
namespace Go.Proofs.YtehkdbgoeakgbaaGreatDoor
set_option linter.all false
open Go.RowKit Go.Shelf

def sumP (l : List Pm) : Nat := (l.map fun f => 5 + min 5000 f.1.length + min 5000 f.2.length).sum
theorem sumP_snoc (l : List Pm) (f : Pm) : sumP (l ++ [f]) = sumP l + (5 + min 5000 f.1.length + min 5000 f.2.length) := by simp [sumP]
theorem sumP_mem {l : List Pm} {f : Pm} (h : f ∈ l) : 5 + min 5000 f.1.length + min 5000 f.2.length ≤ sumP l := by
  obtain ⟨a, b, rfl⟩ := List.append_of_mem h
  simp [sumP]; omega
theorem sumP_len (l : List Pm) : 5 * l.length ≤ sumP l := by
  induction l with
  | nil => simp
  | cons a l ih => simp [sumP] at ih ⊢; omega
def LongPost7 (w0 : World) (L : List Piece) (c : Cm) (e : Ending) (w' : World) : Prop := ∃ r, e = .returned (.bool r) ∧ Own w0 w' L ∧ (r = false → min 5000 c.arg.length + sumP c.ps < 5000)
set_option maxHeartbeats 1000000 in
theorem long7_own {w0 w : World} {L : List Piece} (O : Own w0 w L) (c : Cm) {a : Option Addr} {N cap : Nat} (hN : N = c.ps.length) (hNl : N ≤ maxLen) (ha : c.arg.length ≤ 140737488351232) (hb : ∀ f ∈ c.ps, f.1.length ≤ 140737488351232 ∧ f.2.length ≤ 140737488351232)
    (RD : ∀ w', Own w0 w' L → PmR w' (.slice a N cap) c.ps) :
    Calls Tryz.prog 4 #[cmV c a N cap] w (LongPost7 w0 L c) := by
  unfold cmV
  have RDH := Lib.hid RD
  have HN := Lib.hid hN
  have HB := Lib.hid hb
  have hN9 : N ≤ 9223372036854775807 := hNl
  have O1 := O.newBox #[.int .u8 c.verb, .string ⟨c.arg.toArray⟩, .slice a N cap] 24
  obtain ⟨CB, hCB⟩ : ∃ b, b = w.heap.size := ⟨_, rfl⟩
  rw [← hCB] at O1
  clear RD hN hb hNl O
  go_enter Tryz.func4, Tryz.ntmps4
  go_upto_region 1 with fail
  rw [← hCB]
  clear hCB
  generalize w.alloc (.cells #[.int .u8 c.verb, .string ⟨c.arg.toArray⟩, .slice a N cap] 24) = W at O1 ⊢
  have x1 := O1.cell 1
  have x2 := O1.cell 2
  go_wp2_with fail
  go_loopw [3, 4] (fun nv iv wr => ∃ (k n : Nat), nv = .int .i64 (n : Int) ∧ iv = .int .i64 k ∧ k ≤ N ∧ Hid (n = min 5000 c.arg.length + sumP (c.ps.take k)) ∧ n ≤ 20000 ∧ Own w0 wr (box CB #[.int .u8 c.verb, .string ⟨c.arg.toArray⟩, .slice a N cap] 24 :: L)) (fun _ iv _ => N - (intOf iv).toNat)
  case atStart => exact ⟨0, min 5000 c.arg.length, by congr 1; omega, rfl, by omega, rfl, by omega, O1⟩
  case round =>
    clear O1 x1 x2
    obtain ⟨k, n, rfl, rfl, hk, HS, hn, O⟩ := hrel
    have x2 : wr.cell? ⟨CB, 2, none⟩ = some (.slice a N cap) := O.cell 2
    by_cases hlt : k < N
    · have hb1 : (k : Int) < (N : Int) := by omega
      by_cases hl : n < 5000
      · have hb2 : (n : Int) < 5000 := by omega
        have hx : k < c.ps.length := by rw [← HN.out]; exact hlt
        obtain ⟨g, off, rfl, c0, c1⟩ := (RDH.out _ O.drop).at k hx
        have hs : Hid (n + (5 + min 5000 c.ps[k].1.length + min 5000 c.ps[k].2.length) = min 5000 c.arg.length + sumP (c.ps.take (k + 1))) := by
          unfold Hid; rw [List.take_succ_eq_append_getElem hx, sumP_snoc, HS.out]; omega
        obtain ⟨b1, b2⟩ := HB.out _ (List.getElem_mem hx)
        have b3 := b1
        have b4 := b2
        clear b1 b2
        generalize c.ps[k] = f at c0 c1 hs b3 b4
        clear hx HS
        go_wp2_with fail
        go_quiet (fail)
        go_wp2
        go_roundw
        case rel => exact ⟨k + 1, n + (5 + min 5000 f.1.length + min 5000 f.2.length), by go_num, by go_num, by omega, hs.out, by omega, O.drewN _⟩
        case measure => simp [intOf]; omega
      · have hb2 : ¬ (n : Int) < 5000 := by omega
        have hb3 : (5000 : Int) ≤ (n : Int) := by omega
        go_wp2
        go_ret
        exact ⟨true, rfl, O.drop, fun h => by cases h⟩
    · obtain rfl : k = N := by omega
      have e : n = min 5000 c.arg.length + sumP c.ps := by rw [HS.out, List.take_of_length_le (by have := HN.out; omega)]
      by_cases hl : n < 5000
      · have hb2 : ¬ (5000 : Int) ≤ (n : Int) := by omega
        have E := Lib.hid e
        clear e HS
        go_wp2
        go_ret
        exact ⟨_, rfl, O.drop, fun _ => by rw [← E.out]; exact hl⟩
      · have hb3 : (5000 : Int) ≤ (n : Int) := by omega
        clear e HS
        go_wp2
        go_ret
        exact ⟨_, rfl, O.drop, fun h => by simp at h⟩
end Go.Proofs.YtehkdbgoeakgbaaGreatDoor
